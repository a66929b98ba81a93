/-
 The cipher: a block of the key stream.
-/
import Derived.Test.YtpkfdhlkknanmaaGreatCip
set_option linter.all false
namespace Go.Proofs.YtpkfdhlkknanmaaGreat
open Go Go.RowKit Go.Proofs
def lw (l : List Int) (t : Nat) : Int := l.getD (4 * t) 0 + l.getD (4 * t + 1) 0 * 256 + l.getD (4 * t + 2) 0 * 65536 + l.getD (4 * t + 3) 0 * 16777216
theorem lw_ok {l : List Int} (h : Bytes l) (t : Nat) : R32 (lw l t) := by
 unfold lw
 have h1 := h.getD (4 * t); have h2 := h.getD (4 * t + 1); have h3 := h.getD (4 * t + 2); have h4 := h.getD (4 * t + 3)
 unfold R8 at *; unfold R32; omega
theorem or_up {a b : Nat} {i : Nat} (ha : a < 2 ^ i) (hb : b * 2 ^ i + a < 2 ^ 32) : bOr .u32 (a : Int) ((b * 2 ^ i : Nat) : Int) = ((b * 2 ^ i + a : Nat) : Int) := by
 rw [bOr_u32 (by omega) (by omega)]
 congr 1
 rw [Nat.or_comm, Nat.mul_comm b, Nat.two_pow_add_eq_or_of_lt ha]
theorem lejoin {a b c d : Int} (ha : R8 a) (hb : R8 b) (hc : R8 c) (hd : R8 d) :
  bOr .u32 (bOr .u32 (bOr .u32 (IntKind.u32.wrap a) (IntKind.u32.wrap (IntKind.u32.wrap b * 2 ^ 8))) (IntKind.u32.wrap (IntKind.u32.wrap c * 2 ^ 16))) (IntKind.u32.wrap (IntKind.u32.wrap d * 2 ^ 24)) = a + b * 256 + c * 65536 + d * 16777216 := by
 obtain ⟨a, rfl⟩ : ∃ n : Nat, a = n := ⟨a.toNat, by have := ha.1; omega⟩
 obtain ⟨b, rfl⟩ : ∃ n : Nat, b = n := ⟨b.toNat, by have := hb.1; omega⟩
 obtain ⟨c, rfl⟩ : ∃ n : Nat, c = n := ⟨c.toNat, by have := hc.1; omega⟩
 obtain ⟨d, rfl⟩ : ∃ n : Nat, d = n := ⟨d.toNat, by have := hd.1; omega⟩
 have e1 : IntKind.u32.wrap (IntKind.u32.wrap (b : Int) * 2 ^ 8) = ((b * 2 ^ 8 : Nat) : Int) := by rw [hb.r32.wrap, w32_eq]; have := hb.2; omega
 have e2 : IntKind.u32.wrap (IntKind.u32.wrap (c : Int) * 2 ^ 16) = ((c * 2 ^ 16 : Nat) : Int) := by rw [hc.r32.wrap, w32_eq]; have := hc.2; omega
 have e3 : IntKind.u32.wrap (IntKind.u32.wrap (d : Int) * 2 ^ 24) = ((d * 2 ^ 24 : Nat) : Int) := by rw [hd.r32.wrap, w32_eq]; have := hd.2; omega
 have := ha.2; have := hb.2; have := hc.2; have := hd.2
 rw [ha.r32.wrap, e1, e2, e3, or_up (by omega) (by omega), or_up (by omega) (by omega), or_up (by omega) (by omega)]
 omega
theorem lejoin_ok {w : World} {A : Option Addr} {n c : Nat} {l : List Int} (hn : 4 ≤ n) (hl : 4 ≤ l.length) (hr : RdS w A (By l)) (h8 : Bytes l) :
  Ret Tryz.prog 116 #[.slice A n c] w fun v w' => v = .int .u32 (lw l 0) ∧ Ext w w' := by
 refine L_116 A n c w _ ?_
 intro w1 e1
 obtain ⟨b, o, hA, hrow⟩ := RdS.row (k := .u8) hr (by omega)
 refine ⟨b, o, hA, by omega, by omega, _, hrow 0 _ (getD_get (by omega)), by omega, by omega, _, hrow 1 _ (getD_get (by omega)), by omega, by omega, _, hrow 2 _ (getD_get (by omega)), by omega, by omega, _, hrow 3 _ (getD_get (by omega)), ?_, (Mod.refl _ _).drew e1⟩
 rw [lejoin (h8.getD 0) (h8.getD 1) (h8.getD 2) (h8.getD 3)]
 rfl
theorem leword_ok {w : World} {A : Option Addr} {n c : Nat} {l : List Int} (hn : 4 ≤ n) (hl : 4 ≤ l.length) (hr : RdS w A (By l)) (h8 : Bytes l) :
  Ret Tryz.prog 112 #[.slice A n c] w fun v w' => v = .int .u32 (lw l 0) ∧ Ext w w' := by
 refine L_112 A n c w _ ?_
 intro w1 e1
 obtain ⟨b, o, hA, hrow⟩ := RdS.row (k := .u8) hr (by omega)
 refine ⟨b, o, hA, by omega, by omega, _, hrow 0 _ (getD_get (by omega)), by omega, by omega, _, hrow 1 _ (getD_get (by omega)), by omega, by omega, _, hrow 2 _ (getD_get (by omega)), by omega, by omega, _, hrow 3 _ (getD_get (by omega)), ?_, (Mod.refl _ _).drew e1⟩
 have r0 := h8.getD 0; have r1 := h8.getD 1; have r2 := h8.getD 2; have r3 := h8.getD 3
 unfold R8 at *
 congr 1
 unfold lw
 simp only [w32_eq, Nat.mul_zero, Nat.zero_add]
 omega
theorem lw_drop (l : List Int) (t : Nat) : lw (l.drop (4 * t)) 0 = lw l t := by
 unfold lw
 simp only [List.getD_eq_getElem?_getD, List.getElem?_drop, Nat.mul_zero, Nat.add_zero, Nat.zero_add]
def stW (key nonce : List Int) (ctr : Int) : List Int := [1634760805, 857760878, 2036477234, 1797285236] ++ (List.range 8).map (lw key) ++ [ctr] ++ (List.range 3).map (lw nonce)
theorem stW_length (key nonce : List Int) (ctr : Int) : (stW key nonce ctr).length = 16 := by simp [stW]
theorem stW_words {key nonce : List Int} {ctr : Int} (hk : Bytes key) (hn : Bytes nonce) (hc : R32 ctr) : Words (stW key nonce ctr) := by
 intro x hx
 simp only [stW, List.mem_append, List.mem_cons, List.not_mem_nil, or_false, List.mem_map] at hx
 rcases hx with (((rfl | rfl | rfl | rfl) | ⟨i, _, rfl⟩) | rfl) | ⟨i, _, rfl⟩
 ·exact ⟨by decide, by decide⟩
 ·exact ⟨by decide, by decide⟩
 ·exact ⟨by decide, by decide⟩
 ·exact ⟨by decide, by decide⟩
 ·exact lw_ok hk i
 ·exact hc
 ·exact lw_ok hn i
theorem stW_lo (key nonce : List Int) (ctr : Int) {i : Nat} (h : i < 4) : (stW key nonce ctr)[i]? = ([1634760805, 857760878, 2036477234, 1797285236] : List Int)[i]? := by
 unfold stW
 rw [List.append_assoc, List.append_assoc, List.getElem?_append_left (by simpa using h)]
theorem stW_key (key nonce : List Int) (ctr : Int) {i : Nat} (h : i < 8) : (stW key nonce ctr)[4 + i]? = some (lw key i) := by
 unfold stW
 rw [List.append_assoc, List.append_assoc, List.getElem?_append_right (by simp), List.getElem?_append_left (by simp; omega)]
 simp [h]
theorem stW_ctr (key nonce : List Int) (ctr : Int) : (stW key nonce ctr)[12]? = some ctr := by
 unfold stW
 rw [List.append_assoc, List.append_assoc, List.getElem?_append_right (by simp), List.getElem?_append_right (by simp), List.getElem?_append_left (by simp)]
 simp
theorem stW_nonce (key nonce : List Int) (ctr : Int) {i : Nat} (h : i < 3) : (stW key nonce ctr)[13 + i]? = some (lw nonce i) := by
 unfold stW
 rw [List.append_assoc, List.append_assoc, List.getElem?_append_right (by simp; omega), List.getElem?_append_right (by simp; omega), List.getElem?_append_right (by simp; omega)]
 have : 13 + i - ([1634760805, 857760878, 2036477234, 1797285236] : List Int).length - ((List.range 8).map (lw key)).length - ([ctr] : List Int).length = i := by simp; omega
 rw [this]
 simp [h]
theorem list_ext_lt {u v : List Int} {n : Nat} (hu : u.length = n) (hv : v.length = n) (h : ∀ j, j < n → u[j]? = v[j]?) : u = v := by
 apply List.ext_getElem?
 intro i
 by_cases hi : i < n
 ·exact h i hi
 ·rw [List.getElem?_eq_none (by omega), List.getElem?_eq_none (by omega)]
theorem start_ok {w : World} {key nonce : List Int} {ctr : Int} (hk : key.length = 32) (hn : nonce.length = 12) (k8 : Bytes key) (n8 : Bytes nonce) :
  Ret Tryz.prog 107 #[.agg (By key).toArray, .agg (By nonce).toArray, .int .u32 ctr] w fun v w' => v = .agg (Iv .u32 (stW key nonce ctr)).toArray ∧ Ext w w' := by
 refine L_107 (By key) (By nonce) ctr w _ (by simp [hk]) (by simp [hn]) ?_
 intro b1 w1 e1 e2 b2 w2 e3 e4 b3 w3 e5 e6 b4 w4 e7 e8
 have m1 : Ext w w1 := (Mod.refl _ _).alloc e2
 have m2 : Ext w1 w2 := (Mod.refl _ _).alloc e4
 have m3 : Ext w2 w3 := (Mod.refl _ _).alloc e6
 have m4 : Ext w3 w4 := (Mod.refl _ _).alloc e8
 have s1 := m1.size; have s2 := m2.size; have s3 := m3.size
 have t1 : b1 < w1.heap.size := by rw [e2, e1]; simp
 have t2 : b2 < w2.heap.size := by rw [e4, e3]; simp
 have t3 : b3 < w3.heap.size := by rw [e6, e5]; simp
 have hB1 : Blk w4 b1 22 (Iv .u8 key).toArray := (((Blk.new e1 e2).ext m2).ext m3).ext m4
 have hB2 : Blk w4 b2 130 (Iv .u8 nonce).toArray := ((Blk.new e3 e4).ext m3).ext m4
 have hB3 : Blk w4 b3 176 (List.replicate 16 (.int .u32 0 : Value)).toArray := (Blk.new e5 e6).ext m4
 have hB4 : Blk w4 b4 176 (List.replicate 16 (.int .u32 0 : Value)).toArray := Blk.new e7 e8
 refine lay_ok hB4 (by simp) (by simp) fun w5 h4 m5 => ?_
 have h4' : Blk w5 b4 176 (Iv .u32 ([1634760805, 857760878, 2036477234, 1797285236] ++ List.replicate 12 0)).toArray := h4
 have f5 : Fro w.heap.size w w5 := (Mod.of_ext (((m1.trans m2).trans m3).trans m4)).trans (m5.mono fun k hk e => by omega)
 refine ⟨fun x2 w6 => ∃ (i : Nat) (u : List Int), x2 = i ∧ i ≤ 8 ∧ u.length = 16 ∧ (∀ j, j < 4 + i → u[j]? = (stW key nonce ctr)[j]?) ∧ Blk w6 b4 176 (Iv .u32 u).toArray ∧ Blk w6 b1 22 (Iv .u8 key).toArray ∧ Blk w6 b2 130 (Iv .u8 nonce).toArray ∧
   Blk w6 b3 176 (List.replicate 16 (.int .u32 0 : Value)).toArray ∧ Fro w.heap.size w w6, fun x2 _ => (8 - x2).toNat,
  ⟨0, _, rfl, by omega, by simp, fun j hj => ?_, h4', hB1.mod m5 (by omega), hB2.mod m5 (by omega), hB3.mod m5 (by omega), f5⟩, ?_⟩
 ·rw [stW_lo _ _ _ (by omega), List.getElem?_append_left (by simp; omega)]
 rintro x2 w6 ⟨i, u, rfl, hi, hu, hv, g4, g1, g2, g3, f6⟩
 refine ⟨fun hlt => ?_, fun hge => ?_⟩
 ·have q1 : IntKind.i64.wrap (4 * (i : Int)) = ((4 * i : Nat) : Int) := by rw [wrap_i64 (by omega) (by omega)]; omega
  have q2 : IntKind.i64.wrap (4 + (i : Int)) = ((4 + i : Nat) : Int) := by rw [wrap_i64 (by omega) (by omega)]; omega
  have q3 : IntKind.i64.wrap ((i : Int) + 1) = ((i + 1 : Nat) : Int) := wrap_i64 (by omega) (by omega)
  rw [q1, q2, q3]
  refine ⟨by omega, by omega, by decide, by decide, ?_⟩
  intro A1 hA1
  rw [Int.toNat_natCast] at hA1 ⊢
  have hr : RdS w6 A1 (By (key.drop (4 * i))) := by
   have h0 : RdS w6 (some ⟨b1, 0, none⟩) (By key) := .inr ⟨b1, 0, rfl, g1.range_all⟩
   have := h0.cut (l := 4 * i) (m := 32) (size := 1) (fun e => by omega)
   rw [Nat.mul_one, By_drop] at this
   rw [hA1]; exact this
  refine (lejoin_ok (by omega) (by rw [List.length_drop]; omega) hr (fun x hx => k8 x (List.mem_of_mem_drop hx))).mono ?_
  rintro v w7 ⟨rfl, m7⟩
  rw [lw_drop]
  refine ⟨_, rfl, by omega, by omega, (g4.ext m7).stv (by omega) fun w8 h8 m8 => ⟨⟨i + 1, _, rfl, by omega, by simp [hu], fun j hj => ?_, h8, (g1.ext m7).mod m8 (by omega), (g2.ext m7).mod m8 (by omega), (g3.ext m7).mod m8 (by omega), (Mod.ext f6 m7).trans (m8.mono fun k hk e => by omega)⟩, by dsimp only; omega⟩⟩
  rw [get_set (by omega)]
  split
  ·rename_i hj2; rw [hj2, stW_key _ _ _ (by omega)]
  ·exact hv j (by omega)
 ·obtain rfl : i = 8 := by omega
  refine g4.stc (i := 12) (by omega) fun w9 g4' m9 => ?_
  have f9 : Fro w.heap.size w w9 := f6.trans (m9.mono fun k hk e => by omega)
  refine ⟨fun x2 w6 => ∃ (i : Nat) (u : List Int), x2 = i ∧ i ≤ 3 ∧ u.length = 16 ∧ (∀ j, j < 13 + i → u[j]? = (stW key nonce ctr)[j]?) ∧ Blk w6 b4 176 (Iv .u32 u).toArray ∧ Blk w6 b2 130 (Iv .u8 nonce).toArray ∧
    Blk w6 b3 176 (List.replicate 16 (.int .u32 0 : Value)).toArray ∧ Fro w.heap.size w w6, fun x2 _ => (3 - x2).toNat,
   ⟨0, _, rfl, by omega, by simp [hu], fun j hj => ?_, g4', g2.mod m9 (by omega), g3.mod m9 (by omega), f9⟩, ?_⟩
  ·rw [get_set (by omega)]
   split
   ·rename_i hj2; rw [hj2, stW_ctr]
   ·exact hv j (by omega)
  rintro x4 w10 ⟨i, u2, rfl, hi2, hu2, hv2, j4, j2, j3, f10⟩
  refine ⟨fun hlt => ?_, fun hge => ?_⟩
  ·have q1 : IntKind.i64.wrap (4 * (i : Int)) = ((4 * i : Nat) : Int) := by rw [wrap_i64 (by omega) (by omega)]; omega
   have q2 : IntKind.i64.wrap (13 + (i : Int)) = ((13 + i : Nat) : Int) := by rw [wrap_i64 (by omega) (by omega)]; omega
   have q3 : IntKind.i64.wrap ((i : Int) + 1) = ((i + 1 : Nat) : Int) := wrap_i64 (by omega) (by omega)
   rw [q1, q2, q3]
   refine ⟨by omega, by omega, by decide, by decide, ?_⟩
   intro A1 hA1
   rw [Int.toNat_natCast] at hA1 ⊢
   have hr : RdS w10 A1 (By (nonce.drop (4 * i))) := by
    have h0 : RdS w10 (some ⟨b2, 0, none⟩) (By nonce) := .inr ⟨b2, 0, rfl, j2.range_all⟩
    have := h0.cut (l := 4 * i) (m := 12) (size := 1) (fun e => by omega)
    rw [Nat.mul_one, By_drop] at this
    rw [hA1]; exact this
   refine (lejoin_ok (by omega) (by rw [List.length_drop]; omega) hr (fun x hx => n8 x (List.mem_of_mem_drop hx))).mono ?_
   rintro v w11 ⟨rfl, m11⟩
   rw [lw_drop]
   refine ⟨_, rfl, by omega, by omega, (j4.ext m11).stv (by omega) fun w12 h12 m12 => ⟨⟨i + 1, _, rfl, by omega, by simp [hu2], fun j hj => ?_, h12, (j2.ext m11).mod m12 (by omega), (j3.ext m11).mod m12 (by omega), (Mod.ext f10 m11).trans (m12.mono fun k hk e => by omega)⟩, by dsimp only; omega⟩⟩
   rw [get_set (by omega)]
   split
   ·rename_i hj2; rw [hj2, stW_nonce _ _ _ (by omega)]
   ·exact hv2 j (by omega)
  ·obtain rfl : i = 3 := by omega
   have hue := list_ext_lt hu2 (stW_length key nonce ctr) (fun j hj => hv2 j (by omega))
   subst hue
   exact out_ok (t1 := 176) (t2 := 176) j4 j3 (by simp [stW_length]) (by simp) (One_Iv _ _) fun w' m' => ⟨rfl, Fro.ext (f10.trans (m'.mono fun k hk e => by omega))⟩
def p8 : List (Nat × Nat × Nat × Nat) := [(0, 4, 8, 12), (1, 5, 9, 13), (2, 6, 10, 14), (3, 7, 11, 15), (0, 5, 10, 15), (1, 6, 11, 12), (2, 7, 8, 13), (3, 4, 9, 14)]
def pStep (l : List Int) (p : Nat × Nat × Nat × Nat) : List Int := tAt l p.1 p.2.1 p.2.2.1 p.2.2.2
def pf (l : List Int) (i : Nat) : List Int := (p8.take i).foldl pStep l
theorem pf_succ {l : List Int} {i : Nat} {p : Nat × Nat × Nat × Nat} (h : p8[i]? = some p) : pf l (i + 1) = pStep (pf l i) p := by
 unfold pf
 rw [List.take_succ, h]
 simp
theorem pf_length (l : List Int) : ∀ i, (pf l i).length = l.length
 | 0 => rfl
 | i + 1 => by
  cases hp : p8[i]? with
  | none =>
   have : pf l (i + 1) = pf l i := by unfold pf; rw [List.take_succ, hp]; simp
   rw [this, pf_length l i]
  | some p => rw [pf_succ hp, pStep, tAt_length, pf_length l i]
theorem pf_words {l : List Int} (h : Words l) : ∀ i, Words (pf l i)
 | 0 => h
 | i + 1 => by
  cases hp : p8[i]? with
  | none =>
   have : pf l (i + 1) = pf l i := by unfold pf; rw [List.take_succ, hp]; simp
   rw [this]; exact pf_words h i
  | some p => rw [pf_succ hp]; exact tAt_words (pf_words h i) _ _ _ _
def coreN (l : List Int) : Nat → List Int
 | 0 => l
 | n + 1 => pf (coreN l n) 8
theorem coreN_length (l : List Int) : ∀ n, (coreN l n).length = l.length
 | 0 => rfl
 | n + 1 => by rw [coreN, pf_length, coreN_length l n]
theorem coreN_words {l : List Int} (h : Words l) : ∀ n, Words (coreN l n)
 | 0 => h
 | n + 1 => pf_words (coreN_words h n) 8
def bo (f : List Int) (i : Nat) : Int := IntKind.u8.wrap (iShr .u32 (IntKind.u32.wrap ((coreN f 10).getD (i / 4) 0 + f.getD (i / 4) 0)) ((8 * (i % 4) : Nat) : Int))
def keyB (key nonce : List Int) (ctr : Int) : List Int := (List.range 64).map (bo (stW key nonce ctr))
theorem keyB_length (key nonce : List Int) (ctr : Int) : (keyB key nonce ctr).length = 64 := by simp [keyB]
theorem p8_lo : ∀ i : Fin 4, p8[i.val]? = some (i.val, 4 + i.val, 8 + i.val, 12 + i.val) := by decide
theorem p8_hi : ∀ i : Fin 4, p8[4 + i.val]? = some (i.val, 4 + (i.val + 1) % 4, 8 + (i.val + 2) % 4, 12 + (i.val + 3) % 4) := by decide
theorem keyblock_ok {w : World} {key nonce : List Int} {ctr : Int} (hk : key.length = 32) (hn : nonce.length = 12) (k8 : Bytes key) (n8 : Bytes nonce) (hc : R32 ctr) :
  Ret Tryz.prog 95 #[.agg (By key).toArray, .agg (By nonce).toArray, .int .u32 ctr] w fun v w' => v = .agg (By (keyB key nonce ctr)).toArray ∧ Ext w w' := by
 refine L_95 (By key) (By nonce) ctr w _ (by simp [hk]) (by simp [hn]) ?_
 intro b1 w1 e1 e2 b2 w2 e3 e4 b3 w3 e5 e6
 have m1 : Ext w w1 := (Mod.refl _ _).alloc e2
 have m2 : Ext w1 w2 := (Mod.refl _ _).alloc e4
 have m3 : Ext w2 w3 := (Mod.refl _ _).alloc e6
 have s1 := m1.size; have s2 := m2.size
 have t3 : b3 < w3.heap.size := by rw [e6, e5]; simp
 have hB1 : Blk w3 b1 22 (By key).toArray := ((Blk.new e1 e2).ext m2).ext m3
 have hB2 : Blk w3 b2 130 (By nonce).toArray := (Blk.new e3 e4).ext m3
 have hB3 : Blk w3 b3 160 (List.replicate 64 (.int .u8 0 : Value)).toArray := Blk.new e5 e6
 refine ⟨By key, by simp [hk], hB1.range_all, By nonce, by simp [hn], hB2.range_all, (start_ok hk hn k8 n8).mono ?_⟩
 rintro v w4 ⟨rfl, m4⟩
 refine ⟨_, rfl, by simp [stW_length], ?_⟩
 generalize hf : stW key nonce ctr = f
 have hfl : f.length = 16 := by rw [← hf]; exact stW_length ..
 have hfw : Words f := by rw [← hf]; exact stW_words k8 n8 hc
 have s4 := m4.size
 intro b4 w5 e7 e8
 have m5 : Ext w4 w5 := (Mod.refl _ _).alloc e8
 have hB4 : Blk w5 b4 176 (List.replicate 16 (.int .u32 0 : Value)).toArray := Blk.new e7 e8
 refine ⟨by simp [hfl], One_Iv _ _, lay_ok hB4 (by simp [hfl]) (by simp) fun w6 h4 m6 => ⟨Iv .u32 f, by simp [hfl], h4.range_all, ?_⟩⟩
 intro b5 w7 e9 e10
 have m7 : Ext w6 w7 := (Mod.refl _ _).alloc e10
 have t4 := h4.lt
 have s56 := m6.size; have s45 := m5.size
 have hB5 : Blk w7 b5 176 (List.replicate 16 (.int .u32 0 : Value)).toArray := Blk.new e9 e10
 refine ⟨by simp [hfl], One_Iv _ _, lay_ok hB5 (by simp [hfl]) (by simp) fun w8 h5 m8 => ?_⟩
 have f8 : Fro w.heap.size w w8 := (Mod.ext ((Mod.of_ext ((((m1.trans m2).trans m3).trans m4).trans m5)).trans (m6.mono fun k hk e => by omega)) m7).trans (m8.mono fun k hk e => by omega)
 have k3 : Blk w8 b3 160 (List.replicate 64 (.int .u8 0 : Value)).toArray := ((((hB3.ext m4).ext m5).mod m6 (by omega)).ext m7).mod m8 (by omega)
 have k4 : Blk w8 b4 176 (Iv .u32 f).toArray := (h4.ext m7).mod m8 (by omega)
 refine ⟨fun x2 w9 => ∃ r : Nat, x2 = r ∧ r ≤ 10 ∧ Blk w9 b5 176 (Iv .u32 (coreN f r)).toArray ∧ Mod (fun k => k = b5) w8 w9, fun x2 _ => (10 - x2).toNat, ⟨0, rfl, by omega, h5, Mod.refl _ _⟩, ?_⟩
 rintro x2 w9 ⟨r, rfl, hr, g5, m9⟩
 refine ⟨fun hlt => ?_, fun hge => ?_⟩
 ·refine ⟨fun x3 w10 => ∃ i : Nat, x3 = i ∧ i ≤ 4 ∧ Blk w10 b5 176 (Iv .u32 (pf (coreN f r) i)).toArray ∧ Mod (fun k => k = b5) w8 w10, fun x3 _ => (4 - x3).toNat, ⟨0, rfl, by omega, g5, m9⟩, ?_⟩
  rintro x3 w10 ⟨i, rfl, hi, g10, m10⟩
  have pl : ∀ i, (pf (coreN f r) i).length = 16 := fun i => by rw [pf_length, coreN_length, hfl]
  have pw : ∀ i, Words (pf (coreN f r) i) := pf_words (coreN_words hfw r)
  refine ⟨fun hlt2 => ?_, fun hge2 => ?_⟩
  ·have q1 : IntKind.i64.wrap (4 + (i : Int)) = ((4 + i : Nat) : Int) := by rw [wrap_i64 (by omega) (by omega)]; omega
   have q2 : IntKind.i64.wrap (8 + (i : Int)) = ((8 + i : Nat) : Int) := by rw [wrap_i64 (by omega) (by omega)]; omega
   have q3 : IntKind.i64.wrap (12 + (i : Int)) = ((12 + i : Nat) : Int) := by rw [wrap_i64 (by omega) (by omega)]; omega
   have q4 : IntKind.i64.wrap ((i : Int) + 1) = ((i + 1 : Nat) : Int) := wrap_i64 (by omega) (by omega)
   rw [q1, q2, q3, q4]
   refine (turnat_ok g10 (pl i) (pw i) (i := i) (j := 4 + i) (k := 8 + i) (m := 12 + i) (by omega) (by omega) (by omega) (by omega)).mono ?_
   rintro v w11 ⟨rfl, g11, m11⟩
   exact ⟨rfl, ⟨i + 1, rfl, by omega, by rw [pf_succ (p8_lo ⟨i, by omega⟩)]; exact g11, m10.trans m11⟩, by dsimp only; omega⟩
  ·obtain rfl : i = 4 := by omega
   refine ⟨fun x3 w10 => ∃ i : Nat, x3 = i ∧ i ≤ 4 ∧ Blk w10 b5 176 (Iv .u32 (pf (coreN f r) (4 + i))).toArray ∧ Mod (fun k => k = b5) w8 w10, fun x3 _ => (4 - x3).toNat, ⟨0, rfl, by omega, g10, m10⟩, ?_⟩
   rintro x4 w12 ⟨i, rfl, hi, g12, m12⟩
   refine ⟨fun hlt3 => ?_, fun hge3 => ?_⟩
   ·have tm : ∀ n : Nat, (n : Int).tmod 4 = ((n % 4 : Nat) : Int) := fun n => tmod_nat n 4
    have q1 : IntKind.i64.wrap (4 + (IntKind.i64.wrap ((i : Int) + 1)).tmod 4) = ((4 + (i + 1) % 4 : Nat) : Int) := by
     rw [wrap_i64 (x := (i : Int) + 1) (by omega) (by omega), show (i : Int) + 1 = ((i + 1 : Nat) : Int) by omega, tm, wrap_i64 (by omega) (by omega)]; omega
    have q2 : IntKind.i64.wrap (8 + (IntKind.i64.wrap ((i : Int) + 2)).tmod 4) = ((8 + (i + 2) % 4 : Nat) : Int) := by
     rw [wrap_i64 (x := (i : Int) + 2) (by omega) (by omega), show (i : Int) + 2 = ((i + 2 : Nat) : Int) by omega, tm, wrap_i64 (by omega) (by omega)]; omega
    have q3 : IntKind.i64.wrap (12 + (IntKind.i64.wrap ((i : Int) + 3)).tmod 4) = ((12 + (i + 3) % 4 : Nat) : Int) := by
     rw [wrap_i64 (x := (i : Int) + 3) (by omega) (by omega), show (i : Int) + 3 = ((i + 3 : Nat) : Int) by omega, tm, wrap_i64 (by omega) (by omega)]; omega
    have q4 : IntKind.i64.wrap ((i : Int) + 1) = ((i + 1 : Nat) : Int) := wrap_i64 (by omega) (by omega)
    rw [q1, q2, q3, q4]
    refine (turnat_ok g12 (pl _) (pw _) (i := i) (j := 4 + (i + 1) % 4) (k := 8 + (i + 2) % 4) (m := 12 + (i + 3) % 4) (by omega) (by omega) (by omega) (by omega)).mono ?_
    rintro v w13 ⟨rfl, g13, m13⟩
    exact ⟨rfl, ⟨i + 1, rfl, by omega, by rw [← Nat.add_assoc, pf_succ (p8_hi ⟨i, by omega⟩)]; exact g13, m12.trans m13⟩, by dsimp only; omega⟩
   ·obtain rfl : i = 4 := by omega
    have q4 : IntKind.i64.wrap ((r : Int) + 1) = ((r + 1 : Nat) : Int) := wrap_i64 (by omega) (by omega)
    rw [q4]
    exact ⟨⟨r + 1, rfl, by omega, g12, m12⟩, by dsimp only; omega⟩
 ·obtain rfl : r = 10 := by omega
  intro b6 w14 e11 e12
  have m14 : Ext w9 w14 := (Mod.refl _ _).alloc e12
  have s9 := m9.size; have s8 := f8.size; have hb5 := h5.lt; have hb3 := k3.lt; have hb4 := k4.lt
  have hB6 : Blk w14 b6 160 (Iv .u8 (List.replicate 64 0)).toArray := by rw [Iv_replicate]; exact Blk.new e11 e12
  have f14 : Fro w.heap.size w w14 := Mod.ext (f8.trans (m9.mono fun k hk e => by omega)) m14
  refine ⟨fun x5 w15 => ∃ (i : Nat) (u : List Int), x5 = i ∧ i ≤ 64 ∧ u.length = 64 ∧ (∀ j, j < i → u[j]? = some (bo f j)) ∧ Blk w15 b6 160 (Iv .u8 u).toArray ∧ Blk w15 b5 176 (Iv .u32 (coreN f 10)).toArray ∧ Blk w15 b4 176 (Iv .u32 f).toArray ∧
    Blk w15 b3 160 (List.replicate 64 (.int .u8 0 : Value)).toArray ∧ Fro w.heap.size w w15, fun x5 _ => (64 - x5).toNat,
   ⟨0, _, rfl, by omega, by simp, fun j hj => absurd hj (by omega), hB6, g5.ext m14, (k4.mod m9 (by omega)).ext m14, (k3.mod m9 (by omega)).ext m14, f14⟩, ?_⟩
  rintro x5 w15 ⟨i, u, rfl, hi, hu, hv, j6, j5, j4, j3, f15⟩
  refine ⟨fun hlt => ?_, fun hge2 => ?_⟩
  ·intro w16 e16
   have m16 : Ext w15 w16 := (Mod.refl _ _).drew e16
   have q1 : IntKind.i64.wrap ((i : Int).tdiv 4) = ((i / 4 : Nat) : Int) := by
    have := tdiv_nat i 4
    rw [show ((4 : Nat) : Int) = 4 from rfl] at this
    rw [this]; exact wrap_i64 (by omega) (by omega)
   have q2 : IntKind.i64.wrap (8 * (i : Int).tmod 4) = ((8 * (i % 4) : Nat) : Int) := by
    have := tmod_nat i 4
    rw [show ((4 : Nat) : Int) = 4 from rfl] at this
    rw [this, wrap_i64 (by omega) (by omega)]; omega
   have q4 : IntKind.i64.wrap ((i : Int) + 1) = ((i + 1 : Nat) : Int) := wrap_i64 (by omega) (by omega)
   rw [q1, q2, q4]
   have cl : (coreN f 10).length = 16 := by rw [coreN_length, hfl]
   refine ⟨by omega, by omega, _, j5.ldv (getD_get (by omega)), by omega, by omega, _, j4.ldv (getD_get (by omega)), by omega, by omega, hlt, (j6.ext m16).stv (by omega) fun w17 h17 m17 => ⟨⟨i + 1, _, rfl, by omega, by simp [hu], fun j hj => ?_, h17, (j5.ext m16).mod m17 (by omega), (j4.ext m16).mod m17 (by omega), (j3.ext m16).mod m17 (by omega), (Mod.ext f15 m16).trans (m17.mono fun k hk e => by omega)⟩, by dsimp only; omega⟩⟩
   rw [get_set (by omega)]
   split
   ·rename_i hj2; rw [hj2]; rfl
   ·exact hv j (by omega)
  ·obtain rfl : i = 64 := by omega
   have hue := map_range_of hu hv
   subst hue
   refine out_ok (t1 := 160) (t2 := 160) j6 j3 (by simp) (by simp) (One_Iv _ _) fun w' m' => ⟨?_, Fro.ext (f15.trans (m'.mono fun k hk e => by omega))⟩
   rw [← hf]; rfl
end Go.Proofs.YtpkfdhlkknanmaaGreat
