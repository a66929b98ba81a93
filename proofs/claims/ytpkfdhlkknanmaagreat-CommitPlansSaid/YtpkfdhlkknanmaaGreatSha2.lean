/-
 The program's turn of a state by a block.
-/
import Derived.Test.YtpkfdhlkknanmaaGreatSha
set_option linter.all false
namespace Go.Proofs.YtpkfdhlkknanmaaGreat
open Go Go.RowKit Go.Proofs
theorem kL_get {t : Nat} (h : t < 64) : kL[t]? = some (kL.getD t 0) := by
 have : t < kL.length := h
 simp [List.getD_eq_getElem?_getD, List.getElem?_eq_getElem this]
theorem addS_get {h x : S8} {i : Nat} {a b : Int} (ha : h.l[i]? = some a) (hb : x.l[i]? = some b) : (addS h x).l[i]? = some (IntKind.u32.wrap (a + b)) := by
 have e : (addS h x).l = List.zipWith (fun a b => IntKind.u32.wrap (a + b)) h.l x.l := rfl
 rw [e, List.getElem?_zipWith, ha, hb]
theorem S8.get (s : S8) {i : Nat} (h : i < 8) : ∃ a, s.l[i]? = some a := ⟨s.l[i]'(by simpa [S8.l] using h), by simp [S8.l]⟩
theorem map_range_get {n t : Nat} {f : Nat → Int} (h : t < n) : ((List.range n).map f)[t]? = some (f t) := by simp [h]
theorem S8.len (s : S8) : s.l.length = 8 := rfl
theorem block_ok {w : World} {A : Option Addr} {c : Nat} {l : List Int} {h : S8} (hh : h.Ok) (hl : l.length = 64) (hr : RdS w A (By l)) (h8 : Bytes l) (hc : 64 ≤ c) :
  Ret Tryz.prog 111 #[.agg (Iv .u32 h.l).toArray, .slice A 64 c] w fun v w' => v = .agg (Iv .u32 (blk h l).l).toArray ∧ Ext w w' := by
 refine L_111 (Iv .u32 h.l) A 64 c w _ rfl ?_
 intro b1 w1 e1 e2 b2 w2 e3 e4
 have m1 : Ext w w1 := (Mod.refl _ _).alloc e2
 have m2 : Ext w1 w2 := (Mod.refl _ _).alloc e4
 have s1 := m1.size; have s2 := m2.size
 have t1 : b1 < w1.heap.size := by rw [e2, e1]; simp
 have t2 : b2 < w2.heap.size := by rw [e4, e3]; simp
 have hB1 : Blk w1 b1 162 (Iv .u32 h.l).toArray := Blk.new e1 e2
 have hB2 : Blk w2 b2 162 (List.replicate 8 (.int .u32 0 : Value)).toArray := Blk.new e3 e4
 refine (spread_ok hl ((hr.ext m1).ext m2) h8 hc).mono ?_
 rintro v w3 ⟨rfl, m3⟩
 refine ⟨_, rfl, by simp, (consts_ok w3).mono ?_⟩
 rintro v w4 ⟨rfl, m4⟩
 refine ⟨_, rfl, rfl, ?_⟩
 intro b3 w5 e5 e6 b4 w6 e7 e8
 have s3 := m3.size; have s4 := m4.size
 have m5 : Ext w4 w5 := (Mod.refl _ _).alloc e6
 have m6 : Ext w5 w6 := (Mod.refl _ _).alloc e8
 have s5 := m5.size
 have t3 : b3 < w5.heap.size := by rw [e6, e5]; simp
 have hB3 : Blk w6 b3 189 (List.replicate 64 (.int .u32 0 : Value)).toArray := (Blk.new e5 e6).ext m6
 have hB4 : Blk w6 b4 189 (List.replicate 64 (.int .u32 0 : Value)).toArray := Blk.new e7 e8
 refine ⟨by simp, One_Iv _ _, lay_ok hB3 (by simp) (by simp) fun w7 hC3 m7 => ⟨rfl, One_Iv _ _, lay_ok (hB4.mod m7 (by omega)) (by rfl) (by simp) fun w8 hC4 m8 => ?_⟩⟩
 have a1 : Ext w1 w6 := (((m2.trans m3).trans m4).trans m5).trans m6
 have f8 : Fro w.heap.size w w8 := ((Mod.of_ext (m1.trans a1)).trans (m7.mono fun k hk e => by omega)).trans (m8.mono fun k hk e => by omega)
 have hC1 : Blk w8 b1 162 (Iv .u32 h.l).toArray := ((hB1.ext a1).mod m7 (by omega)).mod m8 (by omega)
 have hC2 : Blk w8 b2 162 (List.replicate 8 (.int .u32 0 : Value)).toArray := ((hB2.ext (((m3.trans m4).trans m5).trans m6)).mod m7 (by omega)).mod m8 (by omega)
 have hC3' := hC3.mod m8 (by omega)
 refine ⟨Iv .u32 h.l, rfl, hC1.range_all, ?_⟩
 intro b5 w9 e9 e10
 have m9 : Ext w8 w9 := (Mod.refl _ _).alloc e10
 have s8 := f8.size
 have hl1 := hC1.lt; have hl2 := hC2.lt; have hl3 := hC3'.lt; have hl4 := hC4.lt
 have hB5 : Blk w9 b5 162 (List.replicate 8 (.int .u32 0 : Value)).toArray := Blk.new e9 e10
 refine ⟨rfl, One_Iv _ _, lay_ok hB5 (by rfl) (by simp) fun w10 hC5 m10 => ?_⟩
 have f10 : Fro w.heap.size w w10 := (f8.trans (Mod.of_ext m9)).trans (m10.mono fun k hk e => by omega)
 refine ⟨fun x1 w11 => ∃ t : Nat, x1 = t ∧ t ≤ 64 ∧ Blk w11 b5 162 (Iv .u32 (rnds h l t).l).toArray ∧ Blk w11 b1 162 (Iv .u32 h.l).toArray ∧ Blk w11 b2 162 (List.replicate 8 (.int .u32 0 : Value)).toArray ∧
   Blk w11 b3 189 (Iv .u32 ((List.range 64).map (wv l))).toArray ∧ Blk w11 b4 189 (Iv .u32 kL).toArray ∧ Fro w.heap.size w w11, fun x1 _ => (64 - x1).toNat,
  ⟨0, rfl, by omega, hC5, (hC1.ext m9).mod m10 (by omega), (hC2.ext m9).mod m10 (by omega), (hC3'.ext m9).mod m10 (by omega), (hC4.ext m9).mod m10 (by omega), f10⟩, ?_⟩
 rintro x1 w11 ⟨t, rfl, ht, h5, h1, h2, h3, h4, f11⟩
 refine ⟨fun hlt => ?_, fun hge => ?_⟩
 ·intro w12 e12
  have ok := rnds_ok hh l t
  have m12 : Ext w11 w12 := (Mod.refl _ _).drew e12
  refine ⟨_, h5.ldc (i := 0) rfl, _, h5.ldc (i := 4) rfl, ?_⟩
  intro w13 e13
  have m13 : Ext w12 w13 := (Mod.refl _ _).drew e13
  have h5' := h5.ext m12
  refine ⟨_, h5'.ldc (i := 7) rfl, _, h5'.ldc (i := 5) rfl, _, h5'.ldc (i := 6) rfl, by omega, hlt, _, (h4.ext m12).ldv (kL_get (by omega)), by omega, hlt, wv l t, (h3.ext m12).ldv (map_range_get (by omega)), ?_⟩
  have k13 : Keep w12 w13 := m13.keep
  refine (turn_ok (n := 6) ok.e (by omega)).mono ?_
  rintro v w14 ⟨rfl, rfl⟩
  refine ⟨_, rfl, k13, (turn_ok (n := 11) ok.e (by omega)).mono ?_⟩
  rintro v w15 ⟨rfl, rfl⟩
  refine ⟨_, rfl, k13, (turn_ok (n := 25) ok.e (by omega)).mono ?_⟩
  rintro v w16 ⟨rfl, rfl⟩
  refine ⟨_, rfl, k13, ?_⟩
  intro w17 e17
  have m17 : Ext w16 w17 := (Mod.refl _ _).drew e17
  have h5'' := h5'.ext m13
  refine ⟨_, h5''.ldc (i := 1) rfl, _, h5''.ldc (i := 2) rfl, _, h5''.ldc (i := 1) rfl, _, h5''.ldc (i := 2) rfl, ?_⟩
  have k17 : Keep w16 w17 := m17.keep
  refine (turn_ok (n := 2) ok.a (by omega)).mono ?_
  rintro v w18 ⟨rfl, rfl⟩
  refine ⟨_, rfl, k17, (turn_ok (n := 13) ok.a (by omega)).mono ?_⟩
  rintro v w19 ⟨rfl, rfl⟩
  refine ⟨_, rfl, k17, (turn_ok (n := 22) ok.a (by omega)).mono ?_⟩
  rintro v w20 ⟨rfl, rfl⟩
  refine ⟨_, rfl, k17, ?_⟩
  intro w21 e21
  have m21 : Ext w20 w21 := (Mod.refl _ _).drew e21
  have a21 : Ext w11 w21 := ((m12.trans m13).trans m17).trans m21
  have g5 := h5.ext a21
  refine ⟨by decide, by decide, by decide, by decide, ?_⟩
  intro A2 hA2
  refine ⟨by decide, by decide, by decide, by decide, ?_⟩
  intro A3 hA3
  have hA2' : A2 = some ⟨b5, 1, none⟩ := hA2
  have hA3' : A3 = some ⟨b5, 0, none⟩ := by rw [hA3, cutA_zero]
  subst hA2'; subst hA3'
  generalize hs : rnds h l t = s at *
  refine ⟨Iv .u32 [s.a, s.b, s.c, s.d, s.e, s.f, s.g], rfl, .inr ⟨b5, 0, rfl, ?_⟩, One_Iv _ _, .inr ⟨b5, 1, rfl, g5.there (by simp [S8.l])⟩, ?_⟩
  ·intro j v hj
   obtain ⟨x, hx, rfl⟩ := Iv_get' hj
   rw [Nat.zero_add]
   refine g5.ldc (i := j) ?_
   have : s.l = [s.a, s.b, s.c, s.d, s.e, s.f, s.g] ++ [s.h] := rfl
   rw [this, List.getElem?_append_left (List.getElem?_eq_some_iff.1 hx).1]
   exact hx
  intro w22 e22
  have hS := Blk.sets (t := 162) (Iv .u32 [s.a, s.b, s.c, s.d, s.e, s.f, s.g]) 1 w21 (Iv .u32 s.l) g5 (by simp [S8.l])
  have hS' : Blk w22 b5 162 (Iv .u32 [s.a, s.a, s.b, s.c, s.d, s.e, s.f, s.g]).toArray := by rw [e22]; exact hS
  have m22 : Mod (fun j => j = b5) w21 w22 := (Mod.refl _ _).sets (.inr rfl) e22
  refine hS'.stc (i := 0) (by simp) fun w23 hT m23 => ⟨_, hT.ldc (i := 4) rfl, hT.stc (i := 4) (by simp) fun w24 hU m24 => ⟨⟨t + 1, ?_, by omega, ?_, ?_, ?_, ?_, ?_, ?_⟩, ?_⟩⟩
  ·exact wrap_i64 (by omega) (by omega)
  ·have e : rnds h l (t + 1) = rnd s (kL.getD t 0) (wv l t) := by rw [← hs]; rfl
   rw [e]
   exact hU
  ·exact (((h1.ext a21).mod m22 (by omega)).mod m23 (by omega)).mod m24 (by omega)
  ·exact (((h2.ext a21).mod m22 (by omega)).mod m23 (by omega)).mod m24 (by omega)
  ·exact (((h3.ext a21).mod m22 (by omega)).mod m23 (by omega)).mod m24 (by omega)
  ·exact (((h4.ext a21).mod m22 (by omega)).mod m23 (by omega)).mod m24 (by omega)
  ·exact (((Mod.ext f11 a21).trans (m22.mono fun k hk e => by omega)).trans (m23.mono fun k hk e => by omega)).trans (m24.mono fun k hk e => by omega)
  ·have : IntKind.i64.wrap ((t : Int) + 1) = (t : Int) + 1 := wrap_i64 (by omega) (by omega)
   rw [this]; dsimp only; omega
 ·obtain rfl : t = 64 := by omega
  refine ⟨fun x20 w25 => ∃ (i : Nat) (u : List Int), x20 = i ∧ i ≤ 8 ∧ u.length = 8 ∧ (∀ j, j < i → u[j]? = (addS h (rnds h l 64)).l[j]?) ∧ (∀ j, i ≤ j → u[j]? = h.l[j]?) ∧ Blk w25 b1 162 (Iv .u32 u).toArray ∧
    Blk w25 b5 162 (Iv .u32 (rnds h l 64).l).toArray ∧ Blk w25 b2 162 (List.replicate 8 (.int .u32 0 : Value)).toArray ∧ Fro w.heap.size w w25, fun x20 _ => (8 - x20).toNat,
   ⟨0, h.l, rfl, by omega, rfl, fun j hj => absurd hj (by omega), fun j _ => rfl, h1, h5, h2, f11⟩, ?_⟩
  rintro x20 w25 ⟨i, u, rfl, hi, hu, hv1, hv2, g1, g5, g2, f25⟩
  refine ⟨fun hlt => ?_, fun hge => ?_⟩
  ·intro w26 e26
   have m26 : Ext w25 w26 := (Mod.refl _ _).drew e26
   obtain ⟨ha, hha⟩ := h.get (i := i) (by omega)
   obtain ⟨xa, hxa⟩ := (rnds h l 64).get (i := i) (by omega)
   have hua : u[i]? = some ha := (hv2 i (by omega)).trans hha
   refine ⟨by omega, hlt, _, g1.ldv hua, by omega, hlt, _, g5.ldv hxa, by omega, hlt, (g1.ext m26).stv (by omega) fun w27 k1 m27 => ?_⟩
   have q : IntKind.i64.wrap ((i : Int) + 1) = ((i + 1 : Nat) : Int) := wrap_i64 (by omega) (by omega)
   rw [q]
   refine ⟨⟨i + 1, _, rfl, by omega, by simp [hu], fun j hj => ?_, fun j hj => ?_, k1, (g5.ext m26).mod m27 (by omega), (g2.ext m26).mod m27 (by omega), (Mod.ext f25 m26).trans (m27.mono fun k hk e => by omega)⟩, by dsimp only; omega⟩
   ·rw [get_set (by omega)]
    split
    ·rename_i hji; rw [hji, addS_get hha hxa]
    ·exact hv1 j (by omega)
   ·rw [get_set (by omega), if_neg (by omega)]
    exact hv2 j (by omega)
  ·obtain rfl : i = 8 := by omega
   have hue : u = (addS h (rnds h l 64)).l := by
    apply List.ext_getElem?
    intro j
    by_cases hj : j < 8
    ·exact hv1 j hj
    ·rw [List.getElem?_eq_none (by omega), List.getElem?_eq_none (by rw [S8.len]; omega)]
   subst hue
   exact out_ok (t1 := 162) (t2 := 162) g1 g2 (by rfl) (by simp) (One_Iv _ _) fun w' m' => ⟨rfl, Fro.ext (f25.trans (m'.mono fun k hk e => by omega))⟩
end Go.Proofs.YtpkfdhlkknanmaaGreat
