/-
 The shape of an image: Path of the program; the document's own shape.
-/
import Derived.Test.YtpkfdhlkknanmaaGreatShape2
set_option linter.all false
namespace Go.Proofs.YtpkfdhlkknanmaaGreat
open Go Go.RowKit Go.Proofs
def pathI (P : Nat) (x : Int) : List Nat := if 0 ≤ x ∧ x < P then pathN P x.toNat else []
theorem path_snoc (P p k : Nat) : (List.range (k + 1 + 1)).map (up P p) = (List.range (k + 1)).map (up P p) ++ [up P p (k + 1)] := by rw [List.range_succ (n := k + 1)]; simp
set_option maxHeartbeats 2000000 in
theorem path_ok {w : World} {A : Option Addr} {n c P : Nat} (h : ShP w A n P) (x : Int) : Ret Tryz.prog 35 #[.agg ([.slice A n c] : List Value).toArray, .int .i64 x] w fun v w' =>
  ∃ A' c', v = .slice A' (pathI P x).length c' ∧ OX 3 .i64 w' w.heap.size A' c' (Un (pathI P x)) ∧ Ext w w' := by
 refine L_35 A n c x w _ ?_
 intro b1 w1 e1 e2
 have hB : Blk w1 b1 32 ([.slice A n c] : List Value).toArray := Blk.new e1 e2
 have m1 : Ext w w1 := (Mod.refl _ _).alloc e2
 have hil := itm_le h.ok
 have hnl := nl_le P
 refine ⟨A, n, c, hB.range_all, (level_ok (h.ext m1) x).mono ?_⟩
 rintro v w2 ⟨rfl, m2⟩
 have m12 := m1.trans m2
 refine ⟨_, rfl, fun hne => ?_, fun h0 => ?_⟩
 ·have hx : ¬ (0 ≤ x ∧ x < P) := by
   rintro ⟨hx1, hx2⟩
   apply hne
   rw [lvI, if_pos (by omega)]
   unfold lvN; rw [if_pos (by omega)]; rfl
  have : pathI P x = [] := by rw [pathI, if_neg hx]
  rw [this]
  exact ⟨none, 0, rfl, OX.nil _ _ _ _, m12⟩
 ·have hx : 0 ≤ x ∧ x < P := by
   unfold lvI at h0
   split at h0
   ·rename_i hx
    refine ⟨hx.1, ?_⟩
    unfold lvN at h0
    split at h0
    ·omega
    ·split at h0
     ·omega
     ·split at h0 <;> omega
   ·omega
  obtain ⟨p, rfl⟩ : ∃ p : Nat, x = p := ⟨x.toNat, by omega⟩
  have hp : p < P := by omega
  have hpi : pathI P p = pathN P p := by rw [pathI, if_pos hx, Int.toNat_natCast]
  rw [hpi]
  intro b2 w3 e3 e4
  have m3 : Ext w2 w3 := (Mod.refl _ _).alloc e4
  have s2 := m12.size
  have t2 : b2 < w3.heap.size := by rw [e4, e3]; simp
  have hO : OX 3 .i64 w3 b2 (some ⟨b2, 0, none⟩) 1 (Un ((List.range (0 + 1)).map (up P p))) := by
   have := Own.new (w := w3) (e := 3) (size := 1) (n := 1) (cs := Iv .i64 [(p : Int)]) (g := b2) (by rfl) (by decide) (Nat.le_refl b2) (Blk.new e3 e4)
   exact this
  have hB3 := (hB.ext m2).ext m3
  have m13 := m12.trans m3
  have hpar : ∀ {w' : World} {k : Nat}, ShP w' A n P → k + 1 ≤ nl P → Ret Tryz.prog 44 #[.agg ([.slice A n c] : List Value).toArray, .int .i64 (up P p k : Nat)] w' fun v w'' =>
    ∃ x3 x4 q1, v = .tuple #[.int .i64 x3, .int .i64 x4, .bool q1] ∧ (q1 = true → k + 1 < nl P ∧ x3 = (up P p (k + 1) : Nat)) ∧ (q1 = false → k + 1 = nl P) ∧ Ext w' w'' := by
   intro w' k hs hk
   obtain ⟨u1, u2⟩ := up_lv h.ok hp k (by omega)
   have hri := root_iff h.ok u1
   rw [u2] at hri
   refine (parent_ok hs u1).mono ?_
   rintro v w'' ⟨rfl, m⟩
   by_cases hr : up P p k + 1 = itm P
   ·rw [if_pos hr]
    exact ⟨_, _, _, rfl, (fun hc => by cases hc), (fun _ => hri.1 hr), m⟩
   ·rw [if_neg hr]
    have hne : ¬ k + 1 = nl P := fun e => hr (hri.2 e)
    exact ⟨_, _, _, rfl, (fun _ => ⟨by omega, rfl⟩), (fun hc => by cases hc), m⟩
  refine ⟨A, n, c, hB3.range_all, ?_⟩
  refine Ret.mono (hpar (k := 0) (h.ext m13) (by omega)) ?_
  rintro v w4 ⟨x3, x4, q1, rfl, hq1, hq2, m4⟩
  refine ⟨x3, x4, q1, rfl, ?_⟩
  refine ⟨fun A' n' c' x5 q w5 => ∃ k : Nat, k + 1 ≤ nl P ∧ n' = k + 1 ∧ OX 3 .i64 w5 b2 A' c' (Un ((List.range (k + 1)).map (up P p))) ∧ (q = true → k + 1 < nl P ∧ x5 = (up P p (k + 1) : Nat)) ∧ (q = false → k + 1 = nl P) ∧ Mod (fun j => b2 ≤ j) w3 w5, fun _ n' _ _ q _ => 2 * (10 - n') + (if q then 1 else 0),
   ⟨0, by omega, rfl, hO.ext m4, hq1, hq2, Mod.of_ext m4⟩, ?_⟩
  rintro A4 n4 c4 x5 q w5 ⟨k, hk, rfl, o5, hk1, hk2, m5⟩
  refine ⟨fun hq => ?_, fun hq => ?_⟩
  ·subst hq
   obtain ⟨hk3, rfl⟩ := hk1 rfl
   intro b3 w6 e5 e6
   have s5 := m5.size
   refine o5.push (by omega) (by simp [Un]) e5 e6 (by omega) (by decide) fun A5 c5 w7 o7 f7 => ?_
   rw [Un_snoc, ← path_snoc] at o7
   have m7 : Mod (fun j => b2 ≤ j) w3 w7 := m5.trans f7
   have hlt := hB.lt
   have s12 := m2.size
   refine ⟨A, n, c, (hB3.mod m7 (by omega)).range_all, ?_⟩
   have hsh : ShP w7 A n P := ⟨h.n, (((h.rd.ext m12).lt.ext m3).mod m7 fun j hj hb => by omega).rd, h.ok⟩
   refine (hpar (k := k + 1) hsh (by omega)).mono ?_
   rintro v w8 ⟨y3, y4, q3, rfl, hr1, hr2, m8⟩
   refine ⟨y3, y4, q3, rfl, ⟨k + 1, by omega, rfl, o7.ext m8, hr1, hr2, m7.ext m8⟩, ?_⟩
   dsimp only
   split <;> simp <;> omega
  ·subst hq
   have hkn := hk2 rfl
   refine ⟨A4, c4, by rw [path_len, hkn], ?_, ?_⟩
   ·have : pathN P p = (List.range (k + 1)).map (up P p) := by unfold pathN; rw [hkn]
    rw [this]; exact o5.mono (by omega)
   ·exact Fro.ext ((Mod.of_ext m13).trans (m5.mono fun j hj hb => by omega))
section
variable {P : Nat}
theorem kid_par (h : 1 ≤ P ∧ P ≤ 216) {p a : Nat} (hp : p < itm P) (ha : a < kidC P p) : kidF P p + a < itm P ∧ lvN P (kidF P p + a) + 1 = lvN P p ∧ parP P (kidF P p + a) = p ∧ parA P (kidF P p + a) = a := by
 obtain ⟨g1, g2, g3⟩ := lv_spec h hp
 unfold kidC at ha
 split at ha
 ·omega
 ·rename_i hl
  have hkf : kidF P p = st P (lvN P p - 1) + 6 * (p - st P (lvN P p)) := rfl
  have e1 : lvN P p - 1 + 1 = lvN P p := by omega
  have hle := lv_eq h (i := kidF P p + a) (l := lvN P p - 1) (by omega) (by rw [e1]; omega) (by omega)
  refine ⟨hle.1, by omega, ?_, ?_⟩
  ·unfold parP
   rw [hle.2]
   have : lvN P p - 1 + 1 = lvN P p := by omega
   rw [this]
   omega
  ·unfold parA
   rw [hle.2]
   omega
theorem par_kid (h : 1 ≤ P ∧ P ≤ 216) {i : Nat} (hi : i < itm P) (hr : lvN P i + 1 < nl P) : parA P i < kidC P (parP P i) ∧ kidF P (parP P i) + parA P i = i := by
 obtain ⟨g1, g2, g3⟩ := lv_spec h hi
 obtain ⟨p1, p2⟩ := par_lv h hi hr
 have hkf : kidF P (parP P i) = st P (lvN P (parP P i) - 1) + 6 * (parP P i - st P (lvN P (parP P i))) := rfl
 have hkc : kidC P (parP P i) = if lvN P (parP P i) = 0 then 0 else min (kidF P (parP P i) + 6) (st P (lvN P (parP P i))) - kidF P (parP P i) := rfl
 rw [p2] at hkf hkc
 rw [if_neg (by omega)] at hkc
 have e : lvN P i + 1 - 1 = lvN P i := by omega
 rw [e] at hkf
 have hpp : parP P i = st P (lvN P i + 1) + (i - st P (lvN P i)) / 6 := rfl
 have hpa : parA P i = (i - st P (lvN P i)) % 6 := rfl
 rw [hkc]
 omega
theorem kidC_le (P i : Nat) : kidC P i ≤ 6 := by unfold kidC; split <;> omega
theorem kidC_pos (h : 1 ≤ P ∧ P ≤ 216) {i : Nat} (hi : i < itm P) (hl : 1 ≤ lvN P i) : 0 < kidC P i := by
 obtain ⟨g1, g2, g3⟩ := lv_spec h hi
 unfold kidC kidF
 rw [if_neg (by omega)]
 generalize lvN P i = l at *
 have hnl := nl_le P
 rcases (show l = 1 ∨ l = 2 ∨ l = 3 by omega) with rfl | rfl | rfl
 ·simp only [st, nb1] at *; omega
 ·simp only [st, nb2] at *; omega
 ·simp only [st, nb3] at *; omega
end
end Go.Proofs.YtpkfdhlkknanmaaGreat
