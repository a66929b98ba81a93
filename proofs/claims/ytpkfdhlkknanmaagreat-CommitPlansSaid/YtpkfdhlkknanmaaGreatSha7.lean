/-
 The document's own digest: a step, and the whole.
-/
import Derived.Test.YtpkfdhlkknanmaaGreatSha6
set_option linter.all false
namespace Go.Proofs.YtpkfdhlkknanmaaGreat
open Go Go.RowKit Go.Proofs
theorem refstep_ok {w : World} {A1 A2 A3 : Option Addr} {c1 c2 c3 : Nat} {l : List Int} {h : S8} (hh : h.Ok) (hK : RdS w A1 (Iv .u32 kL)) (hS : RdS w A2 (Iv .u32 h.l)) (hl : l.length = 64) (hr : RdS w A3 (By l)) (h8 : Bytes l) :
  Ret Tryz.prog 69 #[.slice A1 64 c1, .slice A2 8 c2, .slice A3 64 c3] w fun v w' => ∃ A c, v = .slice A 8 c ∧ OX 23 .u32 w' w.heap.size A c (blk h l).l ∧ Ext w w' := by
 refine L_69 A1 64 c1 A2 8 c2 A3 64 c3 w _ ?_
 obtain ⟨bk, okk, hA1, hk⟩ := hK.row (by decide)
 obtain ⟨bb, ob, hA3, hb⟩ := RdS.row (k := .u8) hr (by omega)
 have hkk : ∀ w', Ext w w' → ∀ (j : Nat) y, kL[j]? = some y → w'.cell? ⟨bk, okk + ((j : Int)).toNat * 1, none⟩ = some (.int .u32 y) := fun w' hm j y hj => (World.cell?_of_block (hm.block _ (block_lt_of_cell (hk j y hj)) id)).trans (hk j y hj)
 have hbb : ∀ w', Ext w w' → ∀ (j : Nat) y, l[j]? = some y → w'.cell? ⟨bb, ob + ((j : Int)).toNat * 1, none⟩ = some (.int .u8 y) := fun w' hm j y hj => (World.cell?_of_block (hm.block _ (block_lt_of_cell (hb j y hj)) id)).trans (hb j y hj)
 refine ⟨fun A n c x w1 => ∃ t : Nat, x = t ∧ t ≤ 64 ∧ n = t ∧ OX 23 .u32 w1 w.heap.size A c ((List.range t).map (wv l)) ∧ Fro w.heap.size w w1, fun _ _ _ x _ => (64 - x).toNat, ⟨0, rfl, by omega, rfl, OX.nil _ _ _ _, Mod.refl _ _⟩, ?_⟩
 rintro A4 n4 c4 x1 w1 ⟨t, rfl, ht, rfl, o1, f1⟩
 refine ⟨fun hlt => ⟨fun hlo => ?_, fun hhi => ?_⟩, fun hge => ?_⟩
 ·intro w2 e1
  have m2 : Ext w1 w2 := (Mod.refl _ _).drew e1
  have q (j : Nat) (hj : j < 4) : IntKind.i64.wrap (IntKind.i64.wrap (4 * (n4 : Int)) + (j : Int)) = ((4 * n4 + j : Nat) : Int) := by
   rw [wrap_i64 (x := 4 * (n4 : Int)) (by omega) (by omega), wrap_i64 (by omega) (by omega)]; omega
  have q0 : IntKind.i64.wrap (4 * (n4 : Int)) = ((4 * n4 : Nat) : Int) := by rw [wrap_i64 (by omega) (by omega)]; omega
  have q1 := q 1 (by omega); have q2 := q 2 (by omega); have q3 := q 3 (by omega)
  rw [show ((1 : Nat) : Int) = 1 from rfl] at q1
  rw [show ((2 : Nat) : Int) = 2 from rfl] at q2
  rw [show ((3 : Nat) : Int) = 3 from rfl] at q3
  have q5 : IntKind.i64.wrap ((n4 : Int) + 1) = ((n4 + 1 : Nat) : Int) := wrap_i64 (by omega) (by omega)
  rw [q1, q2, q3, q0, q5]
  have hg : ∀ j, j < 64 → l[j]? = some (l.getD j 0) := fun j hj => by rw [List.getD_eq_getElem?_getD, List.getElem?_eq_getElem (by omega)]; rfl
  refine ⟨bb, ob, hA3, by omega, by omega, _, hbb w1 f1.ext _ _ (hg (4 * n4) (by omega)), by omega, by omega, _, hbb w1 f1.ext _ _ (hg (4 * n4 + 1) (by omega)), by omega, by omega, _, hbb w1 f1.ext _ _ (hg (4 * n4 + 2) (by omega)), by omega, by omega, _, hbb w1 f1.ext _ _ (hg (4 * n4 + 3) (by omega)), ?_⟩
  have ev : IntKind.u32.wrap (IntKind.u32.wrap (IntKind.u32.wrap (IntKind.u32.wrap (IntKind.u32.wrap (l.getD (4 * n4) 0) * 16777216) + IntKind.u32.wrap (IntKind.u32.wrap (l.getD (4 * n4 + 1) 0) * 65536)) + IntKind.u32.wrap (IntKind.u32.wrap (l.getD (4 * n4 + 2) 0) * 256)) + IntKind.u32.wrap (l.getD (4 * n4 + 3) 0)) = wv l n4 := by
   rw [wv_lo (by omega)]
   unfold wd
   have r0 := h8.getD (4 * n4); have r1 := h8.getD (4 * n4 + 1); have r2 := h8.getD (4 * n4 + 2); have r3 := h8.getD (4 * n4 + 3)
   unfold R8 at *
   simp only [w32_eq]
   omega
  rw [ev]
  intro b2 w3 e2 e3
  refine (o1.ext m2).push (Nat.le_trans f1.size m2.size) (by simp) e2 e3 (by omega) (by decide) fun A5 c5 w4 o4 f4 => ⟨⟨n4 + 1, rfl, by omega, rfl, ?_, (Mod.ext f1 m2).trans f4⟩, by dsimp only; omega⟩
  rw [range_snoc]; exact o4
 ·intro w5 e1
  have m5 : Ext w1 w5 := (Mod.refl _ _).drew e1
  obtain ⟨b3, o2, rfl, hw⟩ := o1.rd.row (by simp; omega)
  have hwg : ∀ j, j < n4 → ((List.range n4).map (wv l))[j]? = some (wv l j) := fun j hj => map_range_get hj
  have q1 : IntKind.i64.wrap ((n4 : Int) - 15) = ((n4 - 15 : Nat) : Int) := by rw [wrap_i64 (by omega) (by omega)]; omega
  have q2 : IntKind.i64.wrap ((n4 : Int) - 2) = ((n4 - 2 : Nat) : Int) := by rw [wrap_i64 (by omega) (by omega)]; omega
  have q7 : IntKind.i64.wrap ((n4 : Int) - 7) = ((n4 - 7 : Nat) : Int) := by rw [wrap_i64 (by omega) (by omega)]; omega
  have q16 : IntKind.i64.wrap ((n4 : Int) - 16) = ((n4 - 16 : Nat) : Int) := by rw [wrap_i64 (by omega) (by omega)]; omega
  have q3 : IntKind.i64.wrap ((n4 : Int) + 1) = ((n4 + 1 : Nat) : Int) := wrap_i64 (by omega) (by omega)
  rw [q1, q2, q7, q16, q3]
  have r15 := R32_wv h8 (n4 - 15)
  have r2 := R32_wv h8 (n4 - 2)
  refine ⟨b3, o2, rfl, by omega, by omega, _, hw _ _ (hwg (n4 - 15) (by omega)), by omega, by omega, _, hw _ _ (hwg (n4 - 2) (by omega)), ?_⟩
  refine (refTurn_ok (n := 7) r15 (by omega)).mono ?_
  rintro v w6 ⟨rfl, rfl⟩
  refine ⟨_, rfl, (refTurn_ok (n := 18) r15 (by omega)).mono ?_⟩
  rintro v w7 ⟨rfl, rfl⟩
  refine ⟨_, rfl, (refTurn_ok (n := 17) r2 (by omega)).mono ?_⟩
  rintro v w8 ⟨rfl, rfl⟩
  refine ⟨_, rfl, (refTurn_ok (n := 19) r2 (by omega)).mono ?_⟩
  rintro v w9 ⟨rfl, rfl⟩
  refine ⟨_, rfl, ?_⟩
  intro w10 e10
  have m10 : Ext w9 w10 := (Mod.refl _ _).drew e10
  have hw9 : ∀ (j : Nat) y, ((List.range n4).map (wv l))[j]? = some y → w9.cell? ⟨b3, o2 + ((j : Int)).toNat * 1, none⟩ = some (.int .u32 y) := fun j y hj => (World.cell?_of_block (m5.block _ (block_lt_of_cell (hw j y hj)) id)).trans (hw j y hj)
  refine ⟨by omega, by omega, _, hw9 _ _ (hwg (n4 - 7) (by omega)), by omega, by omega, _, hw9 _ _ (hwg (n4 - 16) (by omega)), ?_⟩
  have ev : IntKind.u32.wrap (IntKind.u32.wrap (IntKind.u32.wrap (bXor .u32 (bXor .u32 (rotl (32 - 17) (wv l (n4 - 2))) (rotl (32 - 19) (wv l (n4 - 2)))) (IntKind.u32.wrap ((wv l (n4 - 2)).tdiv 1024)) + wv l (n4 - 7)) + bXor .u32 (bXor .u32 (rotl (32 - 7) (wv l (n4 - 15))) (rotl (32 - 18) (wv l (n4 - 15)))) (IntKind.u32.wrap ((wv l (n4 - 15)).tdiv 8))) + wv l (n4 - 16)) = wv l n4 := by
   have d1 : IntKind.u32.wrap ((wv l (n4 - 2)).tdiv 1024) = wv l (n4 - 2) / 1024 := by
    rw [Int.tdiv_eq_ediv_of_nonneg r2.1]; exact wrap_u32 (by have := r2.1; omega) (by have := r2.1; have := r2.2; omega)
   have d2 : IntKind.u32.wrap ((wv l (n4 - 15)).tdiv 8) = wv l (n4 - 15) / 8 := by
    rw [Int.tdiv_eq_ediv_of_nonneg r15.1]; exact wrap_u32 (by have := r15.1; omega) (by have := r15.1; have := r15.2; omega)
   rw [d1, d2]
   exact (wv_hi (l := l) (t := n4) (by omega)).symm
  rw [ev]
  intro b4 w11 e11 e12
  refine ((o1.ext m5).ext m10).push (Nat.le_trans f1.size (Nat.le_trans m5.size m10.size)) (by simp) e11 e12 (by omega) (by decide) fun A5 c5 w12 o12 f12 => ⟨⟨n4 + 1, rfl, by omega, rfl, ?_, (Mod.ext (Mod.ext f1 m5) m10).trans f12⟩, by dsimp only; omega⟩
  rw [range_snoc]; exact o12
 ·obtain rfl : n4 = 64 := by omega
  refine (OX.nil 23 .u32 w1 w1.heap.size).app (Nat.le_refl _) rfl rfl (hS.ext f1.ext) (by omega) (by decide) fun A7 c7 w13 o13 f13 => ?_
  rw [List.nil_append] at o13
  obtain ⟨b7, o5, hA4, hw⟩ := o1.rd.row (by simp)
  subst hA4
  have m13 : Ext w w13 := Mod.ext f1 f13.ext |> Fro.ext
  refine ⟨fun A n c x w14 => ∃ t : Nat, x = t ∧ t ≤ 64 ∧ n = 8 ∧ RdS w14 A (Iv .u32 (rnds h l t).l) ∧ Ext w13 w14, fun _ _ _ x _ => (64 - x).toNat, ⟨0, rfl, by omega, rfl, o13.rd, Mod.refl _ _⟩, ?_⟩
  rintro A8 n5 c8 x14 w14 ⟨t, rfl, ht, rfl, hr8, m14⟩
  have s13 := f13.size
  refine ⟨fun hlt => ?_, fun hge2 => ?_⟩
  ·have ok := rnds_ok hh l t
   obtain ⟨b5, o3, rfl, hx⟩ := hr8.row (by simp [S8.l])
   generalize hs : rnds h l t = s at *
   intro w15 e15
   have m15 : Ext w14 w15 := (Mod.refl _ _).drew e15
   have hx' : ∀ w', Ext w14 w' → ∀ (j : Nat) y, s.l[j]? = some y → w'.cell? ⟨b5, o3 + ((j : Int)).toNat * 1, none⟩ = some (.int .u32 y) := fun w' hm j y hj => (World.cell?_of_block (hm.block _ (block_lt_of_cell (hx j y hj)) id)).trans (hx j y hj)
   refine ⟨b5, o3, rfl, by decide, by decide, _, hx 0 _ rfl, by decide, by decide, _, hx 4 _ rfl, ?_⟩
   intro w16 e16
   have m16 : Ext w15 w16 := (Mod.refl _ _).drew e16
   have mw15 : Ext w w15 := (m13.trans m14).trans m15
   have hwv : w15.cell? ⟨b7, o5 + ((t : Int)).toNat * 1, none⟩ = some (.int .u32 (wv l t)) := by
    have hc := hw t _ (map_range_get (f := wv l) (show t < 64 by omega))
    have hm : Ext w1 w15 := (f13.ext.trans m14).trans m15
    exact (World.cell?_of_block (hm.block _ (block_lt_of_cell hc) id)).trans hc
   refine ⟨by decide, by decide, _, hx' _ m15 7 _ rfl, by decide, by decide, _, hx' _ m15 5 _ rfl, by decide, by decide, _, hx' _ m15 6 _ rfl, bk, okk, hA1, by omega, by omega, _, hkk _ mw15 t _ (kL_get (by omega)), b7, o5, rfl, by omega, by omega, _, hwv, ?_⟩
   have k16 : Keep w15 w16 := m16.keep
   refine (refTurn_ok (n := 6) ok.e (by omega)).mono ?_
   rintro v w17 ⟨rfl, rfl⟩
   refine ⟨_, rfl, k16, (refTurn_ok (n := 11) ok.e (by omega)).mono ?_⟩
   rintro v w18 ⟨rfl, rfl⟩
   refine ⟨_, rfl, k16, (refTurn_ok (n := 25) ok.e (by omega)).mono ?_⟩
   rintro v w19 ⟨rfl, rfl⟩
   refine ⟨_, rfl, k16, ?_⟩
   intro w20 e20
   have m20 : Ext w19 w20 := (Mod.refl _ _).drew e20
   have a19 : Ext w14 w19 := m15.trans m16
   refine ⟨by decide, by decide, _, hx' _ a19 1 _ rfl, by decide, by decide, _, hx' _ a19 2 _ rfl, by decide, by decide, _, hx' _ a19 1 _ rfl, by decide, by decide, _, hx' _ a19 2 _ rfl, ?_⟩
   have k20 : Keep w19 w20 := m20.keep
   refine (refTurn_ok (n := 2) ok.a (by omega)).mono ?_
   rintro v w21 ⟨rfl, rfl⟩
   refine ⟨_, rfl, k20, (refTurn_ok (n := 13) ok.a (by omega)).mono ?_⟩
   rintro v w22 ⟨rfl, rfl⟩
   refine ⟨_, rfl, k20, (refTurn_ok (n := 22) ok.a (by omega)).mono ?_⟩
   rintro v w23 ⟨rfl, rfl⟩
   refine ⟨_, rfl, k20, ?_⟩
   intro w24 e24
   have m24 : Ext w23 w24 := (Mod.refl _ _).drew e24
   have a23 : Ext w14 w23 := a19.trans m20
   refine ⟨by decide, by decide, _, hx' _ a23 0 _ rfl, by decide, by decide, _, hx' _ a23 1 _ rfl, by decide, by decide, _, hx' _ a23 2 _ rfl, by decide, by decide, _, hx' _ a23 3 _ rfl, by decide, by decide, _, hx' _ a23 4 _ rfl, by decide, by decide, _, hx' _ a23 5 _ rfl, by decide, by decide, _, hx' _ a23 6 _ rfl, ?_⟩
   intro b8 w25 e25 e26
   rw [← xor_ones ok.e] at e26
   have hB8 : Blk w25 b8 23 (Iv .u32 (rnd s (kL.getD t 0) (wv l t)).l).toArray := Blk.new e25 e26
   have e : rnds h l (t + 1) = rnd s (kL.getD t 0) (wv l t) := by rw [← hs]; rfl
   have q5 : IntKind.i64.wrap ((t : Int) + 1) = ((t + 1 : Nat) : Int) := wrap_i64 (by omega) (by omega)
   rw [q5]
   exact ⟨⟨t + 1, rfl, by omega, rfl, by rw [e]; exact .inr ⟨b8, 0, rfl, hB8.range_all⟩, ((m14.trans a23).trans m24).trans ((Mod.refl _ _).alloc e26)⟩, by dsimp only; omega⟩
  ·obtain rfl : t = 64 := by omega
   have s14 := m14.size
   have hbl : (blk h l).l = (addS h (rnds h l 64)).l := rfl
   refine ⟨fun A n c x w26 => ∃ i : Nat, x = i ∧ i ≤ 8 ∧ n = i ∧ OX 23 .u32 w26 w14.heap.size A c ((blk h l).l.take i) ∧ Fro w14.heap.size w14 w26, fun _ _ _ x _ => (8 - x).toNat, ⟨0, rfl, by omega, rfl, OX.nil _ _ _ _, Mod.refl _ _⟩, ?_⟩
   rintro A9 n6 c9 x39 w26 ⟨i, rfl, hi, rfl, o26, f26⟩
   refine ⟨fun hlt => ?_, fun hge3 => ?_⟩
   ·intro w27 e27
    have m27 : Ext w26 w27 := (Mod.refl _ _).drew e27
    obtain ⟨b9, o6, rfl, hx⟩ := (hr8.ext f26.ext).row (by simp [S8.l])
    obtain ⟨b10, o7, hA2, hy⟩ := (hS.ext ((m13.trans m14).trans f26.ext)).row (by simp [S8.l])
    obtain ⟨xa, hxa⟩ := (rnds h l 64).get (i := n6) (by omega)
    obtain ⟨ha, hha⟩ := h.get (i := n6) (by omega)
    have q5 : IntKind.i64.wrap ((n6 : Int) + 1) = ((n6 + 1 : Nat) : Int) := wrap_i64 (by omega) (by omega)
    rw [q5]
    refine ⟨b9, o6, rfl, by omega, by omega, _, hx _ _ hxa, b10, o7, hA2, by omega, by omega, _, hy _ _ hha, ?_⟩
    intro b11 w28 e28 e29
    refine (o26.ext m27).push (Nat.le_trans f26.size m27.size) (by rw [List.length_take, S8.len]; omega) e28 e29 (by omega) (by decide) fun A10 c10 w29 o29 f29 => ⟨⟨n6 + 1, rfl, by omega, rfl, ?_, (Mod.ext f26 m27).trans f29⟩, by dsimp only; omega⟩
    have : (blk h l).l.take (n6 + 1) = (blk h l).l.take n6 ++ [IntKind.u32.wrap (xa + ha)] := by rw [List.take_succ, hbl, addS_get hha hxa, Int.add_comm xa ha]; rfl
    rw [this]; exact o29
   ·obtain rfl : n6 = 8 := by omega
    have e8 : (blk h l).l.take 8 = (blk h l).l := rfl
    rw [e8] at o26
    have := m13.size
    exact ⟨A9, c9, rfl, o26.mono (by omega), (m13.trans m14).trans f26.ext⟩
theorem refsha_ok {w : World} {A : Option Addr} {n c : Nat} {txt : List Int} (hl : txt.length = n) (hr : RdS w A (By txt)) (h8 : Bytes txt) (few : n ≤ 900000) :
  Ret Tryz.prog 53 #[.slice A n c] w fun v w' => v = .agg (By (shaL txt)).toArray ∧ Ext w w' := by
 subst hl
 refine L_53 A txt.length c w _ ?_
 intro b1 w1 e1 e2
 have m1 : Ext w w1 := (Mod.refl _ _).alloc e2
 have hB1 : Blk w1 b1 22 (List.replicate 32 (.int .u8 0 : Value)).toArray := Blk.new e1 e2
 refine (all_ok w1).mono ?_
 rintro v w2 ⟨Ak, ck, As, cs, rfl, hK, hS, m2⟩
 refine ⟨Ak, 64, ck, As, 8, cs, rfl, (refpad_ok rfl ((hr.ext m1).ext m2) few).mono ?_⟩
 rintro v w3 ⟨A4, c4, rfl, o4, m3⟩
 refine ⟨A4, _, c4, rfl, ?_⟩
 have hpz : padZ txt.length ≤ 63 := by unfold padZ; omega
 have hfl : (txt ++ padL txt.length).length = txt.length + padZ txt.length + 9 := by rw [List.length_append, padL_length]; omega
 have h64 : (txt.length + padZ txt.length + 9) % 64 = 0 := by unfold padZ; omega
 have b8 : Bytes (txt ++ padL txt.length) := fun x hx => (List.mem_append.1 hx).elim (h8 x) (padL_bytes _ x)
 have hcap := Own.cap o4
 rw [hfl] at hcap
 have m03 : Ext w w3 := (m1.trans m2).trans m3
 generalize hN : txt.length + padZ txt.length + 9 = N at *
 refine ⟨fun A n c x w4 => ∃ q : Nat, x = ((64 * q : Nat) : Int) ∧ 64 * q ≤ N ∧ n = 8 ∧ RdS w4 A (Iv .u32 (tn (txt ++ padL txt.length) q).l) ∧ Ext w3 w4, fun _ _ _ x _ => (N - x).toNat, ⟨0, rfl, by omega, rfl, hS.ext m3, Mod.refl _ _⟩, ?_⟩
 rintro A5 n5 c5 x1 w4 ⟨q, rfl, hq, rfl, hr5, m4⟩
 refine ⟨fun hlt => ?_, fun hge => ?_⟩
 ·have q1 : IntKind.i64.wrap (((64 * q : Nat) : Int) + 64) = ((64 * (q + 1) : Nat) : Int) := by rw [wrap_i64 (by omega) (by omega)]; omega
  rw [q1]
  refine ⟨by omega, by omega, by omega, by omega, ?_⟩
  intro A6 hA6
  have e64 : (((64 * (q + 1) : Nat) : Int)).toNat - (((64 * q : Nat) : Int)).toNat = 64 := by omega
  rw [e64]
  rw [Int.toNat_natCast] at hA6
  have hblk : (((txt ++ padL txt.length).drop (64 * q)).take 64).length = 64 := by rw [List.length_take, List.length_drop]; omega
  have hrd : RdS w4 A6 (By (((txt ++ padL txt.length).drop (64 * q)).take 64)) := by
   have h1 := ((o4.rd.ext m4).cut (l := 64 * q) (m := c4) (size := 1) (fun e => by omega)).take 64
   rw [Nat.mul_one] at h1
   rw [hA6, ← By_take, ← By_drop]
   exact h1
  refine (refstep_ok (tn_ok _ q) (hK.ext (m3.trans m4)) hr5 hblk hrd (fun x hx => b8 x (List.mem_of_mem_drop (List.mem_of_mem_take hx)))).mono ?_
  rintro v w5 ⟨A7, c7, rfl, o7, m5⟩
  exact ⟨A7, 8, c7, rfl, ⟨q + 1, rfl, by omega, rfl, o7.rd, m4.trans m5⟩, by dsimp only; omega⟩
 ·have hq2 : q = N / 64 := by omega
  intro b2 w6 e3 e4
  have m6 : Ext w4 w6 := (Mod.refl _ _).alloc e4
  have s6 := m6.size
  have hB2 : Blk w6 b2 22 (Iv .u8 (List.replicate 32 0)).toArray := by rw [Iv_replicate]; exact Blk.new e3 e4
  have s1 := m1.size
  have mx : Ext w1 w4 := (m2.trans m3).trans m4
  have t1 := hB1.lt
  have sx := mx.size
  have hB1' := (hB1.ext mx).ext m6
  have f6 : Fro w.heap.size w w6 := Mod.of_ext ((m03.trans m4).trans m6)
  have hr6 := hr5.lt.ext m6
  have hs4 := (m03.trans m4).size
  refine ⟨fun x6 w14 => ∃ (i : Nat) (u : List Int), x6 = i ∧ i ≤ 32 ∧ u.length = 32 ∧ (∀ j, j < i → u[j]? = some (dg (tn (txt ++ padL txt.length) q) j)) ∧ Blk w14 b2 22 (Iv .u8 u).toArray ∧
    Blk w14 b1 22 (List.replicate 32 (.int .u8 0 : Value)).toArray ∧ RdP (fun k => k < w4.heap.size) w14 A5 (Iv .u32 (tn (txt ++ padL txt.length) q).l) ∧ Fro w.heap.size w w14, fun x6 _ => (32 - x6).toNat,
   ⟨0, _, rfl, by omega, by simp, fun j hj => absurd hj (by omega), hB2, hB1', hr6, f6⟩, ?_⟩
  rintro x6 w14 ⟨i, u, rfl, hi, hu, hv, k2, k1, kr, f14⟩
  generalize hh2 : tn (txt ++ padL txt.length) q = h2 at *
  refine ⟨fun hlt => ?_, fun hge => ?_⟩
  ·have p1 : IntKind.i64.wrap ((i : Int).tdiv 4) = ((i / 4 : Nat) : Int) := by
    have := tdiv_nat i 4
    rw [show ((4 : Nat) : Int) = 4 from rfl] at this
    rw [this]; exact wrap_i64 (by omega) (by omega)
   have p2 : IntKind.i64.wrap (24 - IntKind.i64.wrap (8 * (i : Int).tmod 4)) = ((24 - 8 * (i % 4) : Nat) : Int) := by
    have := tmod_nat i 4
    rw [show ((4 : Nat) : Int) = 4 from rfl] at this
    rw [this, wrap_i64 (x := 8 * ((i % 4 : Nat) : Int)) (by omega) (by omega), wrap_i64 (by omega) (by omega)]; omega
   have p3 : IntKind.i64.wrap ((i : Int) + 1) = ((i + 1 : Nat) : Int) := wrap_i64 (by omega) (by omega)
   rw [p1, p2, p3]
   obtain ⟨b3, o1, hA5, hx⟩ := kr.rd.row (by simp [S8.l])
   obtain ⟨a, ha⟩ := h2.get (i := i / 4) (by omega)
   have had : h2.l.getD (i / 4) 0 = a := by rw [List.getD_eq_getElem?_getD, ha]; rfl
   refine ⟨b3, o1, hA5, by omega, by omega, _, hx _ _ ha, by omega, by omega, hlt, k2.stv (by omega) fun w15 k15 m15 => ⟨⟨i + 1, _, rfl, by omega, by simp [hu], fun j hj => ?_, k15, k1.mod m15 (by omega), kr.mod m15 (fun k hk e => by omega), f14.trans (m15.mono fun k hk e => by omega)⟩, by dsimp only; omega⟩⟩
   rw [get_set (by omega)]
   split
   ·rename_i hji; rw [hji, ← had]; rfl
   ·exact hv j (by omega)
  ·obtain rfl : i = 32 := by omega
   have hue := map_range_of hu hv
   subst hue
   refine out_ok (t1 := 22) (t2 := 22) k2 k1 (by simp) (by simp) (One_Iv _ _) fun w' m' => ⟨?_, Fro.ext (f14.trans (m'.mono fun k hk e => by omega))⟩
   rw [← hh2, hq2, ← hN]
   rfl
end Go.Proofs.YtpkfdhlkknanmaaGreat
