/-
 The document's own shape: has, Block, Kids, Parent, Path.
-/
import Derived.Test.YtpkfdhlkknanmaaGreatShape3
set_option linter.all false
namespace Go.Proofs.YtpkfdhlkknanmaaGreat
open Go Go.RowKit Go.Proofs
def lvL (P : Nat) : List Int := Un ((List.range (itm P)).map (lvN P))
def fiF (P i : Nat) : Int := if lvN P i = 0 then -1 else (kidF P i : Nat)
def fiL (P : Nat) : List Int := (List.range (itm P)).map (fiF P)
theorem lvL_len (P : Nat) : (lvL P).length = itm P := by simp [lvL, Un]
theorem fiL_len (P : Nat) : (fiL P).length = itm P := by simp [fiL]
theorem lvL_get {P i : Nat} (h : i < itm P) : (lvL P)[i]? = some ((lvN P i : Nat) : Int) := Un_get (by simp [h])
theorem fiL_get {P i : Nat} (h : i < itm P) : (fiL P)[i]? = some (fiF P i) := by simp [fiL, h]
structure ShR (w : World) (x : Int) (A1 : Option Addr) (n1 : Nat) (A2 : Option Addr) (n2 : Nat) (P : Nat) : Prop where
 x : x = P
 n1 : n1 = itm P
 n2 : n2 = itm P
 r1 : RdS w A1 (Iv .i64 (lvL P))
 r2 : RdS w A2 (Iv .i64 (fiL P))
 ok : 1 ≤ P ∧ P ≤ 216
theorem ShR.ext {w w' : World} {x : Int} {A1 A2 : Option Addr} {n1 n2 P : Nat} (h : ShR w x A1 n1 A2 n2 P) (hm : Ext w w') : ShR w' x A1 n1 A2 n2 P := ⟨h.x, h.n1, h.n2, h.r1.ext hm, h.r2.ext hm, h.ok⟩
section
variable {w : World} {x : Int} {A1 A2 : Option Addr} {n1 c1 n2 c2 P : Nat}
theorem refhas_ok (h : ShR w x A1 n1 A2 n2 P) (y : Int) : Ret Tryz.prog 50 #[.agg ([.int .i64 x, .slice A1 n1 c1, .slice A2 n2 c2] : List Value).toArray, .int .i64 y] w fun v w' =>
  v = .bool (decide (0 ≤ y ∧ y < itm P)) ∧ Ext w w' := by
 refine L_50 x A1 n1 c1 A2 n2 c2 y w _ ?_
 intro b1 w1 e1 e2
 have hB : Blk w1 b1 37 ([.int .i64 x, .slice A1 n1 c1, .slice A2 n2 c2] : List Value).toArray := Blk.new e1 e2
 have m1 : Ext w w1 := (Mod.refl _ _).alloc e2
 have hn := h.n1
 refine ⟨fun h0 => ⟨A1, n1, c1, by rw [hB.cell]; rfl, ?_, m1⟩, fun h0 => ⟨?_, m1⟩⟩
 ·congr 1; rw [hn]; simp only [decide_eq_decide]; omega
 ·congr 1; symm; rw [decide_eq_false_iff_not]; omega
theorem refblock_ok (h : ShR w x A1 n1 A2 n2 P) (y z : Int) : Ret Tryz.prog 32 #[.agg ([.int .i64 x, .slice A1 n1 c1, .slice A2 n2 c2] : List Value).toArray, .int .i64 y, .int .i64 z] w fun v w' =>
  v = .int .i64 (if (0 ≤ y ∧ y < itm P) ∧ (z = 0 ∨ z = 1) then 2 + 2 * y + z else -1) ∧ Ext w w' := by
 refine L_32 x A1 n1 c1 A2 n2 c2 y z w _ ?_
 intro b1 w1 e1 e2
 have hB : Blk w1 b1 37 ([.int .i64 x, .slice A1 n1 c1, .slice A2 n2 c2] : List Value).toArray := Blk.new e1 e2
 have m1 : Ext w w1 := (Mod.refl _ _).alloc e2
 have hil := itm_le h.ok
 refine ⟨x, A1, n1, c1, A2, n2, c2, hB.range_all, (refhas_ok (h.ext m1) y).mono ?_⟩
 rintro v w2 ⟨rfl, m2⟩
 have m := m1.trans m2
 refine ⟨_, rfl, fun h0 => ⟨by rw [if_neg]; rintro ⟨hy, _⟩; exact absurd hy (of_decide_eq_false h0), m⟩, fun h0 => ?_⟩
 have hy := of_decide_eq_true h0
 refine ⟨fun h1 => ⟨by rw [if_neg (by omega)], m⟩, fun h1 => ⟨fun h2 => ⟨by rw [if_neg (by omega)], m⟩, fun h2 => ⟨?_, m⟩⟩⟩
 rw [if_pos ⟨hy, by omega⟩, wrap_i64 (x := 2 * y) (by omega) (by omega), wrap_i64 (x := 2 + 2 * y) (by omega) (by omega), wrap_i64 (by omega) (by omega)]
set_option maxHeartbeats 2000000 in
theorem refkids_ok (h : ShR w x A1 n1 A2 n2 P) (y : Int) : Ret Tryz.prog 29 #[.agg ([.int .i64 x, .slice A1 n1 c1, .slice A2 n2 c2] : List Value).toArray, .int .i64 y] w fun v w' =>
  ∃ A' c', v = .slice A' (kidsI P y).length c' ∧ OX 3 .i64 w' w.heap.size A' c' (Un (kidsI P y)) ∧ Ext w w' := by
 refine L_29 x A1 n1 c1 A2 n2 c2 y w _ ?_
 intro b1 w1 e1 e2
 have hB : Blk w1 b1 37 ([.int .i64 x, .slice A1 n1 c1, .slice A2 n2 c2] : List Value).toArray := Blk.new e1 e2
 have m1 : Ext w w1 := (Mod.refl _ _).alloc e2
 have hil := itm_le h.ok
 have hn1 := h.n1; have hn2 := h.n2
 refine ⟨x, A1, n1, c1, A2, n2, c2, hB.range_all, (refhas_ok (h.ext m1) y).mono ?_⟩
 rintro v w2 ⟨rfl, m2⟩
 have m12 := m1.trans m2
 refine ⟨_, rfl, fun h0 => ?_, fun h0 => ?_⟩
 ·have : kidsI P y = [] := by rw [kidsI, if_neg (of_decide_eq_false h0)]
  rw [this]
  exact ⟨none, 0, rfl, OX.nil _ _ _ _, m12⟩
 have hy := of_decide_eq_true h0
 obtain ⟨i, rfl⟩ : ∃ i : Nat, y = i := ⟨y.toNat, by omega⟩
 have hi : i < itm P := by omega
 have hki : kidsI P i = kidsN P i := by rw [kidsI, if_pos hy, Int.toNat_natCast]
 rw [hki]
 obtain ⟨b2, o1, hA2, hrow2⟩ := (h.r2.ext m12).row (by rw [fiL_len]; omega)
 obtain ⟨g1, g2, g3⟩ := lv_spec h.ok hi
 refine ⟨A2, n2, c2, by rw [(hB.ext m2).cell]; rfl, b2, o1, hA2, by omega, by omega, _, hrow2 i _ (fiL_get hi), fun hneg => ?_, fun hpos => ?_⟩
 ·have hl0 : lvN P i = 0 := by
   unfold fiF at hneg
   split at hneg
   ·assumption
   ·omega
  have : kidsN P i = [] := by unfold kidsN kidC; rw [if_pos hl0]; rfl
  rw [this]
  exact ⟨none, 0, rfl, OX.nil _ _ _ _, m12⟩
 ·have hl0 : ¬ lvN P i = 0 := by
   intro e
   unfold fiF at hpos
   rw [if_pos e] at hpos
   exact hpos (by decide)
  have hfi : fiF P i = (kidF P i : Nat) := by unfold fiF; rw [if_neg hl0]
  have hfi2 := fiL_get (P := P) hi
  rw [hfi] at hfi2
  have hkc : kidC P i = min (kidF P i + 6) (st P (lvN P i)) - kidF P i := by unfold kidC; rw [if_neg hl0]
  have hkf : kidF P i = st P (lvN P i - 1) + 6 * (i - st P (lvN P i)) := rfl
  have hkl := kidsN_len P i
  have hkn : kidsN P i = List.range' (kidF P i) (kidC P i) := rfl
  have hs := st_le h.ok (lvN P i); have hs2 := st_le h.ok (lvN P i - 1)
  have hlev : ∀ k, kidF P i ≤ k → k < itm P → (lvN P k + 1 = lvN P i ↔ k < st P (lvN P i)) := by
   intro k hk1 hk2
   obtain ⟨j1, j2, j3⟩ := lv_spec h.ok hk2
   have e1 : lvN P i - 1 + 1 = lvN P i := by omega
   constructor
   ·intro e
    rw [e] at j3; exact j3
   ·intro hlt
    have := (lv_eq h.ok (i := k) (l := lvN P i - 1) (by omega) (by rw [e1]; exact hlt) (by omega)).2
    omega
  refine ⟨A2, n2, c2, by rw [(hB.ext m2).cell]; rfl, b2, o1, hA2, by omega, by omega, _, hrow2 i _ hfi2, ?_⟩
  generalize kidF P i = kf at *
  generalize kidC P i = kc at *
  have s12 := m12.size
  refine ⟨fun A' n' c' x6 w3 => ∃ j : Nat, x6 = ((kf + j : Nat) : Int) ∧ j ≤ kc ∧ n' = j ∧ OX 3 .i64 w3 w2.heap.size A' c' (Un (List.range' kf j)) ∧ Ext w2 w3, fun _ n' _ _ _ => 10 - n', ⟨0, rfl, by omega, rfl, OX.nil _ _ _ _, Mod.refl _ _⟩, ?_⟩
  rintro A7 n7 c7 x6 w3 ⟨j, rfl, hj, rfl, o3, m3⟩
  intro w4 e4
  have m4 : Ext w3 w4 := (Mod.refl _ _).drew e4
  have m34 := m3.trans m4
  have fin : n7 = kc → (∃ A' c', Value.slice A7 n7 c7 = .slice A' (kidsN P i).length c' ∧ OX 3 .i64 w4 w.heap.size A' c' (Un (kidsN P i)) ∧ Ext w w4) := fun e => by
   subst e
   exact ⟨A7, c7, by rw [hkl], by rw [hkn]; exact (o3.ext m4).mono s12, m12.trans m34⟩
  refine ⟨fun hlt6 => ⟨fun hlt => ?_, fun hge => fin (by omega)⟩, fun hge6 => fin (by omega)⟩
  obtain ⟨b4, o3', hA1, hrow1⟩ := ((h.r1.ext m12).ext m3).row (by rw [lvL_len]; omega)
  have hB3 := (hB.ext m2).ext m3
  have hnl := nl_le P
  have q1 : IntKind.i64.wrap (((lvN P i : Nat) : Int) - 1) = ((lvN P i - 1 : Nat) : Int) := by rw [wrap_i64 (by omega) (by omega)]; omega
  refine ⟨A1, n1, c1, by rw [hB3.cell]; rfl, b4, o3', hA1, by omega, by omega, _, hrow1 (kf + n7) _ (lvL_get (by omega)), A1, n1, c1, by rw [hB3.cell]; rfl, b4, o3', hA1, by omega, by omega, _, hrow1 i _ (lvL_get hi), ?_⟩
  rw [q1]
  have hll := hlev (kf + n7) (by omega) (by omega)
  refine ⟨fun heq => ?_, fun hne => fin ?_⟩
  ·have hlt2 := hll.1 (by omega)
   have q2 : IntKind.i64.wrap (((kf + n7 : Nat) : Int) + 1) = ((kf + (n7 + 1) : Nat) : Int) := by rw [wrap_i64 (by omega) (by omega)]; omega
   rw [q2]
   intro b6 w5 e5 e6
   have s34 := m34.size
   refine (o3.ext m4).push (by omega) (by simp [Un]) e5 e6 (by omega) (by decide) fun A10 c10 w6 o6 f6 => ⟨⟨n7 + 1, rfl, by omega, rfl, ?_, ?_⟩, by dsimp only; omega⟩
   ·rw [range'_snoc, ← Un_snoc]; exact o6
   ·exact Fro.ext ((Mod.of_ext m34).trans f6)
  ·have : ¬ kf + n7 < st P (lvN P i) := fun hl => hne (by have := hll.2 hl; omega)
   omega
set_option maxHeartbeats 2000000 in
theorem refparent_ok (h : ShR w x A1 n1 A2 n2 P) {i : Nat} (hi : i < itm P) : Ret Tryz.prog 31 #[.agg ([.int .i64 x, .slice A1 n1 c1, .slice A2 n2 c2] : List Value).toArray, .int .i64 i] w fun v w' =>
  v = (if i + 1 = itm P then .tuple #[.int .i64 0, .int .i64 0, .bool false] else .tuple #[.int .i64 (parP P i : Nat), .int .i64 (parA P i : Nat), .bool true]) ∧ Ext w w' := by
 refine L_31 x A1 n1 c1 A2 n2 c2 i w _ ?_
 intro b1 w1 e1 e2
 have hB : Blk w1 b1 37 ([.int .i64 x, .slice A1 n1 c1, .slice A2 n2 c2] : List Value).toArray := Blk.new e1 e2
 have m1 : Ext w w1 := (Mod.refl _ _).alloc e2
 have hil := itm_le h.ok
 have hn1 := h.n1; have hn2 := h.n2
 have hri := root_iff h.ok hi
 refine ⟨fun x3 w2 => ∃ p : Nat, x3 = p ∧ p ≤ itm P ∧ (i + 1 ≠ itm P → p ≤ parP P i) ∧ Ext w1 w2, fun x3 _ => (itm P - x3).toNat, ⟨0, rfl, by omega, fun _ => by omega, Mod.refl _ _⟩, ?_⟩
 rintro x3 w2 ⟨p, rfl, hp, hpp, m2⟩
 refine ⟨A1, n1, c1, by rw [(hB.ext m2).cell]; rfl, fun hlt => ?_, fun hge => ?_⟩
 ·refine ⟨x, A1, n1, c1, A2, n2, c2, (hB.ext m2).range_all, (refkids_ok ((h.ext m1).ext m2) p).mono ?_⟩
  rintro v w3 ⟨A6, c6, rfl, o6, m3⟩
  have hpi : p < itm P := by omega
  have hkp : kidsI P p = kidsN P p := by rw [kidsI, if_pos (by omega), Int.toNat_natCast]
  rw [hkp] at o6 ⊢
  have hkl := kidsN_len P p
  have q1 : IntKind.i64.wrap ((p : Int) + 1) = ((p + 1 : Nat) : Int) := wrap_i64 (by omega) (by omega)
  rw [q1]
  refine ⟨A6, _, c6, rfl, ?_⟩
  rw [hkl]
  have hkcl := kidC_le P p
  have hget : ∀ a, a < kidC P p → (Un (kidsN P p))[a]? = some ((kidF P p + a : Nat) : Int) := fun a ha => Un_get (by unfold kidsN; rw [List.getElem?_range' ha]; simp)
  refine ⟨fun x5 w4 => ∃ a : Nat, x5 = a ∧ a ≤ kidC P p ∧ w4 = w3 ∧ ∀ a', a' < a → kidF P p + a' ≠ i, fun x5 _ => (10 - x5).toNat, ⟨0, rfl, by omega, rfl, fun a' h => absurd h (by omega)⟩, ?_⟩
  rintro x5 w4 ⟨a, rfl, ha, rfl, hno⟩
  refine ⟨fun hlt2 => ?_, fun hge2 => ?_⟩
  ·obtain ⟨b2, o1, hA6, hrow⟩ := o6.rd.row (by rw [Un_len, hkl]; omega)
   have q2 : IntKind.i64.wrap ((a : Int) + 1) = ((a + 1 : Nat) : Int) := wrap_i64 (by omega) (by omega)
   rw [q2]
   refine ⟨b2, o1, hA6, by omega, by omega, _, hrow a _ (hget a (by omega)), fun heq => ?_, fun hne => ?_⟩
   ·have hk := kid_par h.ok hpi (a := a) (by omega)
    have e : kidF P p + a = i := by omega
    rw [e] at hk
    obtain ⟨_, k2, k3, k4⟩ := hk
    obtain ⟨g1, _, _⟩ := lv_spec h.ok hpi
    refine ⟨?_, (m1.trans m2).trans m3⟩
    rw [if_neg (fun he => by have := hri.1 he; omega), k3, k4]
   ·exact ⟨⟨a + 1, rfl, by omega, rfl, fun a' ha' => by
     rcases Nat.lt_succ_iff_lt_or_eq.1 ha' with h | h
     ·exact hno a' h
     ·subst h; omega⟩, by dsimp only; omega⟩
  ·obtain rfl : a = kidC P p := by omega
   refine ⟨⟨p + 1, rfl, by omega, fun hne => ?_, m2.trans m3⟩, by dsimp only; omega⟩
   have h1 := hpp hne
   rcases Nat.lt_or_ge p (parP P i) with hlt3 | hge3
   ·omega
   ·exfalso
    have hpe : p = parP P i := by omega
    obtain ⟨g1, _, _⟩ := lv_spec h.ok hi
    have hlv : lvN P i + 1 < nl P := by have : ¬ lvN P i + 1 = nl P := fun e => hne (hri.2 e); omega
    obtain ⟨k1, k2⟩ := par_kid h.ok hi hlv
    rw [← hpe] at k1 k2
    exact hno _ k1 k2
 ·have hpe : p = itm P := by omega
  refine ⟨?_, m1.trans m2⟩
  have : i + 1 = itm P := by
   apply Classical.byContradiction
   intro hne
   have h1 := hpp hne
   obtain ⟨g1, _, _⟩ := lv_spec h.ok hi
   have hlv : lvN P i + 1 < nl P := by have : ¬ lvN P i + 1 = nl P := fun e => hne (hri.2 e); omega
   have := (par_lv h.ok hi hlv).1
   omega
  rw [if_pos this]
set_option maxHeartbeats 2000000 in
theorem refpath_ok (h : ShR w x A1 n1 A2 n2 P) (y : Int) : Ret Tryz.prog 49 #[.agg ([.int .i64 x, .slice A1 n1 c1, .slice A2 n2 c2] : List Value).toArray, .int .i64 y] w fun v w' =>
  ∃ A' c', v = .slice A' (pathI P y).length c' ∧ OX 3 .i64 w' w.heap.size A' c' (Un (pathI P y)) ∧ Ext w w' := by
 refine L_49 x A1 n1 c1 A2 n2 c2 y w _ ?_
 intro b1 w1 e1 e2
 have hB : Blk w1 b1 37 ([.int .i64 x, .slice A1 n1 c1, .slice A2 n2 c2] : List Value).toArray := Blk.new e1 e2
 have m1 : Ext w w1 := (Mod.refl _ _).alloc e2
 have hil := itm_le h.ok
 have hx := h.x
 have hnl := nl_le P
 have bad : ¬ (0 ≤ y ∧ y < P) → (∃ A' c', Value.slice none 0 0 = .slice A' (pathI P y).length c' ∧ OX 3 .i64 w1 w.heap.size A' c' (Un (pathI P y)) ∧ Ext w w1) := fun hb => by
  rw [pathI, if_neg hb]
  exact ⟨none, 0, rfl, OX.nil _ _ _ _, m1⟩
 refine ⟨fun h0 => bad (by omega), fun h0 => ⟨x, by rw [hB.cell]; rfl, fun h1 => bad (by omega), fun h1 => ?_⟩⟩
 obtain ⟨p, rfl⟩ : ∃ p : Nat, y = p := ⟨y.toNat, by omega⟩
 have hp : p < P := by omega
 have hpi : pathI P p = pathN P p := by rw [pathI, if_pos (by omega), Int.toNat_natCast]
 rw [hpi]
 intro b2 w2 e3 e4
 have m2 : Ext w1 w2 := (Mod.refl _ _).alloc e4
 have s1 := m1.size
 have t2 : b2 < w2.heap.size := by rw [e4, e3]; simp
 have t1 := hB.lt
 have hO : OX 3 .i64 w2 b2 (some ⟨b2, 0, none⟩) 1 (Un ((List.range (0 + 1)).map (up P p))) := by
  have := Own.new (w := w2) (e := 3) (size := 1) (n := 1) (cs := Iv .i64 [(p : Int)]) (g := b2) (by rfl) (by decide) (Nat.le_refl b2) (Blk.new e3 e4)
  exact this
 refine ⟨fun A' n' c' x4 w3 => ∃ k : Nat, x4 = k ∧ k + 1 ≤ nl P ∧ n' = k + 1 ∧ OX 3 .i64 w3 b2 A' c' (Un ((List.range (k + 1)).map (up P p))) ∧ Mod (fun j => b2 ≤ j) w2 w3, fun _ n' _ _ _ => 12 - n', ⟨0, rfl, by omega, rfl, hO, Mod.refl _ _⟩, ?_⟩
 rintro A3 n3 c3 x4 w3 ⟨k, rfl, hk, rfl, o3, m3⟩
 refine ⟨fun _ => ?_, fun hge => absurd hge (by omega)⟩
 intro w4 e5
 have m4 : Ext w3 w4 := (Mod.refl _ _).drew e5
 obtain ⟨b3, o1, rfl, hrow⟩ := o3.rd.row (by simp [Un])
 have q1 : IntKind.i64.wrap (((k + 1 : Nat) : Int) - 1) = (k : Int) := by rw [wrap_i64 (by omega) (by omega)]; omega
 rw [q1]
 have hsh : ShR w4 x A1 n1 A2 n2 P := by
  refine ⟨h.x, h.n1, h.n2, ?_, ?_, h.ok⟩
  ·exact ((((h.r1.ext m1).lt.ext m2).mod m3 fun j hj hb => by omega).ext m4).rd
  ·exact ((((h.r2.ext m1).lt.ext m2).mod m3 fun j hj hb => by omega).ext m4).rd
 obtain ⟨u1, u2⟩ := up_lv h.ok hp k (by omega)
 have hri := root_iff h.ok u1
 rw [u2] at hri
 refine ⟨x, A1, n1, c1, A2, n2, c2, ((hB.ext m2).mod m3 (by omega)).range_all, b3, o1, rfl, by omega, by omega, _, hrow k _ (Un_get (by rw [List.getElem?_map, List.getElem?_range (by omega)]; rfl)), ?_⟩
 refine (refparent_ok hsh u1).mono ?_
 rintro v w5 ⟨rfl, m5⟩
 have m35 : Mod (fun j => b2 ≤ j) w2 w5 := Mod.ext (Mod.ext m3 m4) m5
 by_cases hr : up P p k + 1 = itm P
 ·rw [if_pos hr]
  refine ⟨_, _, _, rfl, fun _ => ?_, fun h => (by cases h)⟩
  have hkn := hri.1 hr
  refine ⟨_, c3, by rw [path_len, hkn], ?_, Fro.ext ((Mod.of_ext (m1.trans m2)).trans (m35.mono fun j hj hb => by omega))⟩
  have : pathN P p = (List.range (k + 1)).map (up P p) := by unfold pathN; rw [hkn]
  rw [this]; exact ((o3.ext m4).ext m5).mono (by omega)
 ·rw [if_neg hr]
  refine ⟨_, _, _, rfl, fun h => (by cases h), fun _ => ?_⟩
  have hkn : ¬ k + 1 = nl P := fun e => hr (hri.2 e)
  intro b4 w6 e6 e7
  have s35 := m35.size
  refine ((o3.ext m4).ext m5).push (by omega) (by simp [Un]) e6 e7 (by omega) (by decide) fun A6 c6 w7 o7 f7 => ?_
  have q2 : IntKind.i64.wrap ((k : Int) + 1) = ((k + 1 : Nat) : Int) := wrap_i64 (by omega) (by omega)
  rw [q2]
  rw [show ((parP P (up P p k) : Nat) : Int) = ((up P p (k + 1) : Nat) : Int) from rfl, Un_snoc, ← path_snoc] at o7
  exact ⟨⟨k + 1, rfl, by omega, rfl, o7, m35.trans f7⟩, by dsimp only; omega⟩
end
end Go.Proofs.YtpkfdhlkknanmaaGreat
