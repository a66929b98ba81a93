/-
 The shape of an image: New, Kids and Path of the program.
-/
import Derived.Test.YtpkfdhlkknanmaaGreatShape
set_option linter.all false
namespace Go.Proofs.YtpkfdhlkknanmaaGreat
open Go Go.RowKit Go.Proofs
theorem RdS.grow {t : TypeId} {k : IntKind} {w : World} {A B : Option Addr} {c n m by_ : Nat} {z : Value} {l l2 : List Int} {K : Option Addr → Nat → World → Prop} (hn : l.length = n) (hr : RdS w A (Iv k l)) (hk : l2.length = m) (hr2 : RdS w B (Iv k l2)) (hc : c < n + m)
  (hfew : n + m ≤ 1099511627776) (hby : by_ ≤ 64) (hK : ∀ A' c' w', OX t k w' w.heap.size A' c' (l ++ l2) → Ext w w' → K A' c' w') :
  ∃ la lb : List Value, (n + m) * by_ ≤ 140737488355328 ∧ la.length = n * 1 ∧ RdS w A la ∧ lb.length = m * 1 ∧ RdS w B lb ∧ One lb ∧ (n + m ≤ c → Room w A (n * 1) (m * 1)) ∧
   ∀ A' c' w', Appended w t 1 #[z] A n c m la lb A' c' w' → K A' c' w' := by
 subst hn; subst hk
 refine ⟨Iv k l, Iv k l2, ?_, by simp, hr, by simp, hr2, One_Iv k l2, fun h => absurd h (by omega), fun A' c' w' ha => ?_⟩
 ·calc (l.length + l2.length) * by_ ≤ (l.length + l2.length) * 64 := Nat.mul_le_mul_left _ hby
   _ ≤ 140737488355328 := by omega
 rcases ha with ⟨h1, _⟩ | ⟨h1, h2, h3, rfl, rfl⟩
 ·omega
 ·refine hK _ _ _ ⟨by simp, .inr ⟨w.heap.size, c', _, by simp, Nat.le_refl _, heap_alloc_new w.drew _, by simpa using h2, h3, ?_, ?_⟩⟩ (((Mod.refl _ _).drew rfl).alloc rfl)
  ·rw [Array.size_append, size_zc, List.size_toArray, List.length_append, Iv_length, Iv_length]
   simp; omega
  ·rw [Array.toList_append, List.toList_toArray, Iv_append]
   have : (l ++ l2).length * 1 = (Iv k l ++ Iv k l2).length := by simp
   rw [this]
   exact List.take_left
section
variable {P : Nat}
theorem lv_eq (h : 1 ≤ P ∧ P ≤ 216) {i l : Nat} (h1 : st P l ≤ i) (h2 : i < st P (l + 1)) (hl : l < nl P) : i < itm P ∧ lvN P i = l := by
 unfold itm lvN
 have hc := nl_cases h
 have := nl_le P
 match l, hl, h1, h2 with
 | 0, _, h1, h2 =>
  simp only [st] at h1 h2
  refine ⟨?_, by rw [if_pos h2]⟩
  rcases hc with ⟨e, _⟩ | ⟨e, _⟩ | ⟨e, _⟩ <;> rw [e] <;> simp only [st] <;> omega
 | 1, _, h1, h2 =>
  simp only [st] at h1 h2
  refine ⟨?_, by rw [if_neg (by omega), if_pos (by simp only [st]; omega)]⟩
  rcases hc with ⟨e, _⟩ | ⟨e, _⟩ | ⟨e, _⟩ <;> rw [e] <;> simp only [st] <;> omega
 | 2, hl, h1, h2 =>
  simp only [st] at h1 h2
  refine ⟨?_, by rw [if_neg (by omega), if_neg (by simp only [st]; omega), if_pos (by simp only [st]; omega)]⟩
  rcases hc with ⟨e, _⟩ | ⟨e, _⟩ | ⟨e, _⟩ <;> rw [e] at hl ⊢ <;> simp only [st] <;> omega
 | 3, hl, h1, h2 =>
  simp only [st] at h1 h2
  refine ⟨?_, by rw [if_neg (by omega), if_neg (by simp only [st]; omega), if_neg (by simp only [st]; omega)]⟩
  rcases hc with ⟨e, _⟩ | ⟨e, _⟩ | ⟨e, _⟩ <;> rw [e] at hl ⊢ <;> simp only [st] <;> omega
 | l + 4, hl, _, _ => omega
theorem st_next (P : Nat) : ∀ {j : Nat}, j ≤ 2 → (st P (j + 1) - st P j + 5) / 6 = st P (j + 2) - st P (j + 1) ∧ st P (j + 1) ≤ st P (j + 2)
 | 0, _ => by simp only [st, nb1]; omega
 | 1, _ => by simp only [st, nb2]; omega
 | 2, _ => by simp only [st, nb3]; omega
 | j + 3, h => by omega
theorem st_mono (P : Nat) : ∀ j, st P j ≤ st P (j + 1)
 | 0 => by simp only [st]; omega
 | 1 => by simp only [st]; omega
 | 2 => by simp only [st]; omega
 | 3 => by simp only [st]; omega
 | j + 4 => by simp only [st]; omega
theorem top_one (h : 1 ≤ P ∧ P ≤ 216) : st P (nl P) = st P (nl P - 1) + 1 := by
 rcases nl_cases h with ⟨e, h1, _⟩ | ⟨e, h1, h2, _⟩ | ⟨e, h1, h2, h3, _⟩ <;> rw [e] <;> simp only [st] <;> omega
theorem root_iff (h : 1 ≤ P ∧ P ≤ 216) {i : Nat} (hi : i < itm P) : i + 1 = itm P ↔ lvN P i + 1 = nl P := by
 obtain ⟨g1, g2, g3⟩ := lv_spec h hi
 have ht := top_one h
 unfold itm at *
 constructor
 ·intro e
  have := lv_eq h (i := i) (l := nl P - 1) (by omega) (by rw [show nl P - 1 + 1 = nl P from (by have := nl_le P; omega)]; omega) (by have := nl_le P; omega)
  rw [this.2]; have := nl_le P; omega
 ·intro e
  have e2 : lvN P i = nl P - 1 := by omega
  have e3 : nl P - 1 + 1 = nl P := by omega
  rw [e2] at g2 g3
  rw [e3] at g3
  omega
theorem par_lv (h : 1 ≤ P ∧ P ≤ 216) {i : Nat} (hi : i < itm P) (hr : lvN P i + 1 < nl P) : parP P i < itm P ∧ lvN P (parP P i) = lvN P i + 1 := by
 obtain ⟨g1, g2, g3⟩ := lv_spec h hi
 refine lv_eq h (l := lvN P i + 1) (by unfold parP; omega) ?_ hr
 unfold parP
 generalize lvN P i = l at *
 have := nl_le P
 match l, hr, g2, g3 with
 | 0, _, g2, g3 => simp only [st, nb1] at *; omega
 | 1, _, g2, g3 => simp only [st, nb2] at *; omega
 | 2, _, g2, g3 => simp only [st, nb3] at *; omega
 | l + 3, hr, _, _ => omega
theorem up_lv (h : 1 ≤ P ∧ P ≤ 216) {p : Nat} (hp : p < P) : ∀ k, k < nl P → up P p k < itm P ∧ lvN P (up P p k) = k
 | 0, _ => by
  have := itm_le h
  exact ⟨by unfold up; omega, by unfold up lvN; rw [if_pos hp]⟩
 | k + 1, hk => by
  obtain ⟨h1, h2⟩ := up_lv h hp k (by omega)
  have := par_lv h h1 (by omega)
  rw [h2] at this
  exact this
theorem path_len (P p : Nat) : (pathN P p).length = nl P := by simp [pathN]
end
theorem Un_snoc (l : List Nat) (x : Nat) : Un l ++ [(x : Int)] = Un (l ++ [x]) := by simp [Un]
theorem Un_len (l : List Nat) : (Un l).length = l.length := by simp [Un]
set_option maxHeartbeats 2000000 in
theorem newshape_ok {w : World} (x : Int) : Ret Tryz.prog 4 #[.int .i64 x] w fun v w' => Ext w w' ∧
  ((¬ (1 ≤ x ∧ x ≤ 216) ∧ v = .tuple #[.agg ([.slice none 0 0] : List Value).toArray, .int .i64 1]) ∨
  (∃ P : Nat, x = P ∧ ∃ A n c, v = .tuple #[.agg ([.slice A n c] : List Value).toArray, .int .i64 0] ∧ ShP w' A n P)) := by
 refine L_4 x w _ ?_
 intro b1 w1 e1 e2
 have hB : Blk w1 b1 32 ([.slice none 0 0] : List Value).toArray := Blk.new e1 e2
 have m1 : Ext w w1 := (Mod.refl _ _).alloc e2
 have t1 : b1 < w1.heap.size := by rw [e2, e1]; simp
 refine ⟨fun h => ?_, fun h => ⟨fun h2 => ?_, fun h2 => ?_⟩⟩
 ·exact lay_ok hB (by rfl) (by rfl) fun w2 hB2 m2 => ⟨none, 0, 0, hB2.range_all, Fro.ext ((Mod.of_ext m1).trans (m2.mono fun k hk e => by omega)), .inl ⟨by omega, rfl⟩⟩
 ·exact lay_ok hB (by rfl) (by rfl) fun w2 hB2 m2 => ⟨none, 0, 0, hB2.range_all, Fro.ext ((Mod.of_ext m1).trans (m2.mono fun k hk e => by omega)), .inl ⟨by omega, rfl⟩⟩
 obtain ⟨P, rfl⟩ : ∃ P : Nat, x = P := ⟨x.toNat, by omega⟩
 have hP : 1 ≤ P ∧ P ≤ 216 := by omega
 intro b2 w4 e3 e4
 have m4 : Ext w1 w4 := (Mod.refl _ _).alloc e4
 have hB2 : Blk w4 b2 3 (Iv .i64 (Un [0, P])).toArray := Blk.new e3 e4
 refine ⟨fun A n c x2 w5 => ∃ j : Nat, j + 1 ≤ nl P ∧ n = j + 2 ∧ x2 = ((st P (j + 1) - st P j : Nat) : Int) ∧ RdP (fun k => k ≠ b1) w5 A (Iv .i64 (Un ((List.range (j + 2)).map (st P)))) ∧ n ≤ c ∧ Ext w1 w5, fun _ n _ _ _ => 7 - n,
  ⟨0, by have := nl_le P; omega, rfl, by simp [st], .inr ⟨b2, 0, by omega, rfl, hB2.range_all⟩, by omega, m4⟩, ?_⟩
 rintro A3 n3 c3 x2 w5 ⟨j, hj, rfl, rfl, hr, hc, m5⟩
 have hnl := nl_le P
 refine ⟨fun w6 => w6 = w5 ∧ j + 1 < nl P, ?_, fun hgt => ⟨rfl, ?_⟩, fun hle => ⟨fun h2 => ⟨rfl, by omega⟩, fun hne => ?_⟩⟩
 ·rintro w6 ⟨rfl, hlt⟩
  intro w7 e7
  have m7 : Ext w6 w7 := (Mod.refl _ _).drew e7
  refine ⟨by decide, by omega, by omega, by omega, ?_⟩
  intro A4 hA4
  rw [cutA_zero] at hA4
  subst hA4
  obtain ⟨b3, o1, hA, hrow⟩ := hr.rd.row (by simp [Un])
  have q1 : IntKind.i64.wrap (((j + 2 : Nat) : Int) - 1) = ((j + 1 : Nat) : Int) := by rw [wrap_i64 (by omega) (by omega)]; omega
  have hs := st_le hP (j + 1)
  have q2 : IntKind.i64.wrap (IntKind.i64.wrap (((st P (j + 1) - st P j : Nat) : Int) + 6) - 1) = ((st P (j + 1) - st P j + 5 : Nat) : Int) := by
   rw [wrap_i64 (x := ((st P (j + 1) - st P j : Nat) : Int) + 6) (by omega) (by omega), wrap_i64 (by omega) (by omega)]; omega
  have q3 : (((st P (j + 1) - st P j + 5 : Nat) : Int)).tdiv 6 = (((st P (j + 1) - st P j + 5) / 6 : Nat) : Int) := tdiv_nat _ 6
  have hst := st_next P (j := j) (by omega)
  have q4 : IntKind.i64.wrap (((st P (j + 1) - st P j + 5) / 6 : Nat) : Int) = ((st P (j + 2) - st P (j + 1) : Nat) : Int) := by rw [wrap_i64 (by omega) (by omega)]; omega
  have hs2 := st_le hP (j + 2)
  have q5 : IntKind.i64.wrap (((st P (j + 1) : Nat) : Int) + ((st P (j + 2) - st P (j + 1) : Nat) : Int)) = ((st P (j + 2) : Nat) : Int) := by rw [wrap_i64 (by omega) (by omega)]; omega
  refine ⟨b3, o1, hA, ?_⟩
  rw [q1, q2, q3, q4]
  refine ⟨by omega, by omega, _, hrow (j + 1) ((st P (j + 1) : Nat) : Int) (Un_get (by rw [List.getElem?_map, List.getElem?_range (by omega)]; rfl)), ?_⟩
  rw [q5]
  intro b4 w8 e8 e9
  have m8 : Ext w7 w8 := (Mod.refl _ _).alloc e9
  have hB4 : Blk w8 b4 3 (Iv .i64 [((st P (j + 2) : Nat) : Int)]).toArray := Blk.new e8 e9
  refine RdS.grow (l2 := [((st P (j + 2) : Nat) : Int)]) (by simp [Un]) ((hr.rd.ext m7).ext m8) (by rfl) (.inr ⟨b4, 0, rfl, hB4.range_all⟩) (by omega) (by omega) (by decide) fun A5 c5 w9 o9 m9 => ?_
  rw [Un_snoc] at o9
  have er : (List.range (j + 2)).map (st P) ++ [st P (j + 2)] = (List.range (j + 2 + 1)).map (st P) := by rw [List.range_succ (n := j + 2)]; simp
  rw [er] at o9
  have hcap := Own.cap o9
  have s5 := m5.size; have s7 := m7.size; have s8 := m8.size
  refine ⟨⟨j + 1, by omega, by omega, rfl, o9.rdp.mono fun k _ hk => by have := hk.1; omega, by simp [Un] at hcap; omega, ((m5.trans m7).trans m8).trans m9⟩, by dsimp only; omega⟩
 ·rcases Nat.lt_or_ge (j + 1) (nl P) with h | h
  ·exact h
  ·have ht := top_one hP
   have e : j = nl P - 1 := by omega
   have e2 : j + 1 = nl P := by omega
   rw [e2, e] at hgt
   omega
 ·have hjn : j + 1 = nl P := by
   rcases Nat.lt_or_ge (j + 1) (nl P) with h | h
   ·exfalso
    rcases nl_cases hP with ⟨e, h1, _⟩ | ⟨e, h1, h2, _⟩ | ⟨e, h1, h2, h3, _⟩ <;> rw [e] at h
    ·omega
    ·obtain rfl : j = 1 := by omega
     simp only [st] at hle; omega
    ·rcases (show j = 1 ∨ j = 2 by omega) with rfl | rfl
     ·simp only [st] at hle; omega
     ·simp only [st] at hle; omega
   ·omega
  have hr' : RdP (fun k => k ≠ b1) w5 A3 (Iv .i64 (Un (bgs P))) := by unfold bgs; rw [← hjn]; exact hr
  have hB5 := hB.ext m5
  refine lay_ok hB5 (by rfl) (by rfl) fun w10 h10 m10 => ⟨A3, j + 2, c3, h10.range_all, Fro.ext ((Mod.of_ext (m1.trans m5)).trans (m10.mono fun k hk e => by omega)), .inr ⟨P, rfl, A3, j + 2, c3, rfl, ⟨by omega, (hr'.mod m10 fun k hk e => hk e).rd, hP⟩⟩⟩
def kidsI (P : Nat) (x : Int) : List Nat := if 0 ≤ x ∧ x < itm P then kidsN P x.toNat else []
theorem kidsN_len (P i : Nat) : (kidsN P i).length = kidC P i := by simp [kidsN]
theorem range'_snoc (a n : Nat) : List.range' a (n + 1) = List.range' a n ++ [a + n] := by rw [List.range'_concat]; simp
set_option maxHeartbeats 2000000 in
theorem kids_ok {w : World} {A : Option Addr} {n c P : Nat} (h : ShP w A n P) (x : Int) : Ret Tryz.prog 40 #[.agg ([.slice A n c] : List Value).toArray, .int .i64 x] w fun v w' =>
  ∃ A' c', v = .slice A' (kidsI P x).length c' ∧ OX 3 .i64 w' w.heap.size A' c' (Un (kidsI P x)) ∧ Ext w w' := by
 refine L_40 A n c x w _ ?_
 intro b1 w1 e1 e2
 have hB : Blk w1 b1 32 ([.slice A n c] : List Value).toArray := Blk.new e1 e2
 have m1 : Ext w w1 := (Mod.refl _ _).alloc e2
 have hn := h.n
 have hnl := nl_le P
 have hil := itm_le h.ok
 refine ⟨A, n, c, hB.range_all, (level_ok (h.ext m1) x).mono ?_⟩
 rintro v w2 ⟨rfl, m2⟩
 have m12 := m1.trans m2
 refine ⟨_, rfl, fun h0 => ?_, fun h0 => ?_⟩
 ·have : kidsI P x = [] := by
   unfold kidsI
   split
   ·rename_i hx
    rw [lvI, if_pos hx] at h0
    unfold kidsN kidC
    rw [if_pos (by omega)]; rfl
   ·rfl
  rw [this]
  exact ⟨none, 0, rfl, OX.nil _ _ _ _, m12⟩
 ·have hx : 0 ≤ x ∧ x < itm P := by
   unfold lvI at h0
   split at h0
   ·assumption
   ·omega
  obtain ⟨i, rfl⟩ : ∃ i : Nat, x = i := ⟨x.toNat, by omega⟩
  have hi : i < itm P := by omega
  have hki : kidsI P i = kidsN P i := by rw [kidsI, if_pos hx, Int.toNat_natCast]
  rw [hki]
  rw [lvI_ok h.ok hi] at h0 ⊢
  obtain ⟨g1, g2, g3⟩ := lv_spec h.ok hi
  have hkc : kidC P i = min (kidF P i + 6) (st P (lvN P i)) - kidF P i := by unfold kidC; rw [if_neg (by omega)]
  have hkf : kidF P i = st P (lvN P i - 1) + 6 * (i - st P (lvN P i)) := rfl
  have hkl := kidsN_len P i
  have hs := st_le h.ok (lvN P i); have hs2 := st_le h.ok (lvN P i - 1); have hs3 := st_le h.ok (lvN P i + 1)
  have hkfl : kidF P i ≤ 2000 := by omega
  have hkn : kidsN P i = List.range' (kidF P i) (kidC P i) := rfl
  intro w3 e3
  have m3 : Ext w2 w3 := (Mod.refl _ _).drew e3
  obtain ⟨b, o, hA, hr⟩ := ((h.ext m12)).row
  have q1 : IntKind.i64.wrap (((lvN P i : Nat) : Int) - 1) = ((lvN P i - 1 : Nat) : Int) := by rw [wrap_i64 (by omega) (by omega)]; omega
  have q2 : IntKind.i64.wrap ((i : Int) - ((st P (lvN P i) : Nat) : Int)) = ((i - st P (lvN P i) : Nat) : Int) := by rw [wrap_i64 (by omega) (by omega)]; omega
  have q3 : IntKind.i64.wrap (6 * ((i - st P (lvN P i) : Nat) : Int)) = ((6 * (i - st P (lvN P i)) : Nat) : Int) := by rw [wrap_i64 (by omega) (by omega)]; omega
  have q4 : IntKind.i64.wrap (((st P (lvN P i - 1) : Nat) : Int) + ((6 * (i - st P (lvN P i)) : Nat) : Int)) = ((kidF P i : Nat) : Int) := by rw [wrap_i64 (by omega) (by omega)]; omega
  have q5 : IntKind.i64.wrap (((kidF P i : Nat) : Int) + 6) = ((kidF P i + 6 : Nat) : Int) := by rw [wrap_i64 (by omega) (by omega)]; omega
  refine ⟨A, n, c, by rw [(hB.ext m2).cell]; rfl, b, o, hA, ?_⟩
  rw [q1]
  refine ⟨by omega, by omega, _, hr (lvN P i - 1) (by omega), A, n, c, by rw [(hB.ext m2).cell]; rfl, b, o, hA, by omega, by omega, _, hr (lvN P i) (by omega), ?_⟩
  rw [q2, q3, q4, q5]
  generalize kidF P i = kf at *
  generalize hkc2 : kidC P i = kc at *
  have s3 := m3.size
  have s12 := m12.size
  refine ⟨fun A' n' c' x5 w4 => ∃ j : Nat, x5 = ((kf + j : Nat) : Int) ∧ j ≤ kc ∧ n' = j ∧ OX 3 .i64 w4 w2.heap.size A' c' (Un (List.range' kf j)) ∧ Ext w2 w4, fun _ _ _ x5 _ => (kf + 6 - x5).toNat, ⟨0, rfl, by omega, rfl, OX.nil _ _ _ _, m3⟩, ?_⟩
  rintro A5 n5 c5 x5 w4 ⟨j, rfl, hj, rfl, o4, m4⟩
  obtain ⟨b', o', hA', hr'⟩ := ((h.ext m12).ext m4).row
  have hmin : imin (((kf + 6 : Nat) : Int)) (((st P (lvN P i) : Nat) : Int)) = ((min (kf + 6) (st P (lvN P i)) : Nat) : Int) := by
   rcases Nat.le_total (kf + 6) (st P (lvN P i)) with hle | hle
   ·rw [imin_le (by omega)]; omega
   ·rw [imin_ge (by omega)]; omega
  refine ⟨A, n, c, by rw [((hB.ext m2).ext m4).cell]; rfl, b', o', hA', by omega, by omega, _, hr' (lvN P i) (by omega), ?_⟩
  rw [hmin]
  refine ⟨fun hlt => ?_, fun hge => ?_⟩
  ·have q6 : IntKind.i64.wrap (((kf + n5 : Nat) : Int) + 1) = ((kf + (n5 + 1) : Nat) : Int) := by rw [wrap_i64 (by omega) (by omega)]; omega
   rw [q6]
   intro b5 w5 e5 e6
   have s4 := m4.size
   refine o4.push (by omega) (by simp [Un]) e5 e6 (by omega) (by decide) fun A7 c7 w6 o6 f6 => ⟨⟨n5 + 1, rfl, by omega, rfl, ?_, ?_⟩, by dsimp only; omega⟩
   ·rw [range'_snoc, ← Un_snoc]; exact o6
   ·exact Fro.ext ((Mod.of_ext m4).trans f6)
  ·obtain rfl : n5 = kc := by omega
   exact ⟨A5, c5, by rw [hkl], by rw [hkn]; exact o4.mono s12, m12.trans m4⟩
end Go.Proofs.YtpkfdhlkknanmaaGreat
