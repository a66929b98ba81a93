/-
 The shape of an image, as a law on numbers; what the program's methods of a shape tell.
-/
import Derived.Test.YtpkfdhlkknanmaaGreatCip5
import Derived.Test.YtpkfdhlkknanmaaGreatW3
set_option linter.all false
namespace Go.Proofs.YtpkfdhlkknanmaaGreat
open Go Go.RowKit Go.Proofs
def nb1 (P : Nat) : Nat := (P + 5) / 6
def nb2 (P : Nat) : Nat := (nb1 P + 5) / 6
def nb3 (P : Nat) : Nat := (nb2 P + 5) / 6
def st (P : Nat) : Nat → Nat
 | 0 => 0
 | 1 => P
 | 2 => P + nb1 P
 | 3 => P + nb1 P + nb2 P
 | _ => P + nb1 P + nb2 P + nb3 P
def nl (P : Nat) : Nat := if P ≤ 6 then 2 else if P ≤ 36 then 3 else 4
def itm (P : Nat) : Nat := st P (nl P)
def bgs (P : Nat) : List Nat := (List.range (nl P + 1)).map (st P)
def lvN (P i : Nat) : Nat := if i < P then 0 else if i < st P 2 then 1 else if i < st P 3 then 2 else 3
def kidF (P i : Nat) : Nat := st P (lvN P i - 1) + 6 * (i - st P (lvN P i))
def kidC (P i : Nat) : Nat := if lvN P i = 0 then 0 else min (kidF P i + 6) (st P (lvN P i)) - kidF P i
def kidsN (P i : Nat) : List Nat := List.range' (kidF P i) (kidC P i)
def parP (P i : Nat) : Nat := st P (lvN P i + 1) + (i - st P (lvN P i)) / 6
def parA (P i : Nat) : Nat := (i - st P (lvN P i)) % 6
def up (P i : Nat) : Nat → Nat
 | 0 => i
 | n + 1 => parP P (up P i n)
def pathN (P page : Nat) : List Nat := (List.range (nl P)).map (up P page)
section
variable {P : Nat}
theorem nl_cases (h : 1 ≤ P ∧ P ≤ 216) : (nl P = 2 ∧ nb1 P = 1 ∧ P ≤ 6) ∨ (nl P = 3 ∧ 2 ≤ nb1 P ∧ nb2 P = 1 ∧ 6 < P ∧ P ≤ 36) ∨ (nl P = 4 ∧ 2 ≤ nb1 P ∧ 2 ≤ nb2 P ∧ nb3 P = 1 ∧ 36 < P) := by
 unfold nl nb3 nb2 nb1
 split
 ·left; omega
 ·split
  ·right; left; omega
  ·right; right; omega
theorem nl_le (P : Nat) : 2 ≤ nl P ∧ nl P ≤ 4 := by unfold nl; split; omega; split <;> omega
theorem st_le (h : 1 ≤ P ∧ P ≤ 216) (n : Nat) : st P n ≤ 260 := by
 unfold st
 split <;> (try simp only [nb3, nb2, nb1]) <;> omega
theorem itm_le (h : 1 ≤ P ∧ P ≤ 216) : P < itm P ∧ itm P ≤ 260 := by
 refine ⟨?_, st_le h _⟩
 unfold itm
 rcases nl_cases h with ⟨e, h1, _⟩ | ⟨e, h1, h2, _⟩ | ⟨e, h1, h2, h3, _⟩ <;> rw [e] <;> simp only [st] <;> omega
theorem bgs_len (P : Nat) : (bgs P).length = nl P + 1 := by simp [bgs]
theorem bgs_get {j : Nat} (h : j ≤ nl P) : (Un (bgs P))[j]? = some ((st P j : Nat) : Int) := Un_get (by
 unfold bgs
 rw [List.getElem?_map, List.getElem?_range (by omega)]; rfl)
theorem lv_spec (h : 1 ≤ P ∧ P ≤ 216) {i : Nat} (hi : i < itm P) : lvN P i < nl P ∧ st P (lvN P i) ≤ i ∧ i < st P (lvN P i + 1) := by
 unfold itm at hi
 have hc := nl_cases h
 by_cases h0 : i < P
 ·have e : lvN P i = 0 := by unfold lvN; rw [if_pos h0]
  rw [e]; simp only [st]; have := nl_le P; omega
 by_cases h1 : i < st P 2
 ·have e : lvN P i = 1 := by unfold lvN; rw [if_neg h0, if_pos h1]
  rw [e]; simp only [st] at h1 ⊢; have := nl_le P; omega
 by_cases h2 : i < st P 3
 ·have e : lvN P i = 2 := by unfold lvN; rw [if_neg h0, if_neg h1, if_pos h2]
  rw [e]
  rcases hc with ⟨e, _⟩ | ⟨e, _⟩ | ⟨e, _⟩ <;> rw [e] at hi ⊢ <;> simp only [st] at * <;> omega
 ·have e : lvN P i = 3 := by unfold lvN; rw [if_neg h0, if_neg h1, if_neg h2]
  rw [e]
  rcases hc with ⟨e, _⟩ | ⟨e, _⟩ | ⟨e, _⟩ <;> rw [e] at hi ⊢ <;> simp only [st] at * <;> omega
theorem lv_first (h : 1 ≤ P ∧ P ≤ 216) {i l : Nat} (hi : i < itm P) (h1 : i < st P (l + 1)) (h2 : ∀ m, m < l → ¬ i < st P (m + 1)) (hl : l < nl P) : lvN P i = l := by
 obtain ⟨g1, g2, g3⟩ := lv_spec h hi
 rcases Nat.lt_trichotomy (lvN P i) l with hlt | heq | hgt
 ·exact absurd g3 (h2 _ hlt)
 ·exact heq
 ·exfalso
  have mono : ∀ m, l + 1 ≤ m → m ≤ lvN P i → st P (l + 1) ≤ st P m := by
   intro m hm1 hm2
   have hlv : lvN P i ≤ 3 := by
    have := nl_le P; omega
   match l, m, hm1, hm2 with
   | 0, 1, _, _ => exact Nat.le_refl _
   | 0, 2, _, _ => simp only [st]; omega
   | 0, 3, _, _ => simp only [st]; omega
   | 1, 2, _, _ => exact Nat.le_refl _
   | 1, 3, _, _ => simp only [st]; omega
   | 2, 3, _, _ => exact Nat.le_refl _
   | l + 3, m, _, _ => omega
   | 0, m + 4, _, _ => omega
   | 1, m + 4, _, _ => omega
   | 2, m + 4, _, _ => omega
  have := mono _ (by omega) (Nat.le_refl _)
  omega
end
structure ShP (w : World) (A : Option Addr) (n : Nat) (P : Nat) : Prop where
 n : n = nl P + 1
 rd : RdS w A (Iv .i64 (Un (bgs P)))
 ok : 1 ≤ P ∧ P ≤ 216
theorem ShP.ext {w w' : World} {A : Option Addr} {n P : Nat} (h : ShP w A n P) (hm : Ext w w') : ShP w' A n P := ⟨h.n, h.rd.ext hm, h.ok⟩
theorem ShP.row {w : World} {A : Option Addr} {n P : Nat} (h : ShP w A n P) : ∃ b o, A = some ⟨b, o, none⟩ ∧ ∀ (j : Nat), j ≤ nl P → w.cell? ⟨b, o + ((j : Int)).toNat * 1, none⟩ = some (.int .i64 (st P j : Nat)) := by
 obtain ⟨b, o, hA, hr⟩ := h.rd.row (by simp [Un, bgs_len])
 exact ⟨b, o, hA, fun j hj => hr j _ (bgs_get hj)⟩
section
variable {w : World} {A : Option Addr} {n c P : Nat}
theorem levels_ok (h : ShP w A n P) : Ret Tryz.prog 70 #[.agg ([.slice A n c] : List Value).toArray] w fun v w' => v = .int .i64 (nl P : Nat) ∧ Ext w w' := by
 refine L_70 A n c w _ ?_
 intro b1 w1 e1 e2
 have hB : Blk w1 b1 32 ([.slice A n c] : List Value).toArray := Blk.new e1 e2
 have hn := h.n
 have := nl_le P
 refine ⟨A, n, c, by rw [hB.cell]; rfl, ?_, (Mod.refl _ _).alloc e2⟩
 have q : IntKind.i64.wrap ((n : Int) - 1) = ((nl P : Nat) : Int) := by rw [wrap_i64 (by omega) (by omega)]; omega
 rw [q]
 unfold imax
 rw [if_neg (by omega)]
theorem items_ok (h : ShP w A n P) : Ret Tryz.prog 74 #[.agg ([.slice A n c] : List Value).toArray] w fun v w' => v = .int .i64 (itm P : Nat) ∧ Ext w w' := by
 refine L_74 A n c w _ ?_
 intro b1 w1 e1 e2
 have hB : Blk w1 b1 32 ([.slice A n c] : List Value).toArray := Blk.new e1 e2
 have m1 : Ext w w1 := (Mod.refl _ _).alloc e2
 have hn := h.n
 have := nl_le P
 obtain ⟨b, o, hA, hr⟩ := (h.ext m1).row
 have q : IntKind.i64.wrap ((n : Int) - 1) = ((nl P : Nat) : Int) := by rw [wrap_i64 (by omega) (by omega)]; omega
 refine ⟨A, n, c, by rw [hB.cell]; rfl, fun h0 => absurd h0 (by omega), fun _ => ⟨A, n, c, by rw [hB.cell]; rfl, A, n, c, by rw [hB.cell]; rfl, b, o, hA, ?_⟩⟩
 rw [q]
 exact ⟨by omega, by omega, _, hr _ (Nat.le_refl _), rfl, m1⟩
theorem root_ok (h : ShP w A n P) : Ret Tryz.prog 59 #[.agg ([.slice A n c] : List Value).toArray] w fun v w' => v = .int .i64 ((itm P - 1 : Nat) : Int) ∧ Ext w w' := by
 refine L_59 A n c w _ ?_
 intro b1 w1 e1 e2
 have hB : Blk w1 b1 32 ([.slice A n c] : List Value).toArray := Blk.new e1 e2
 have m1 : Ext w w1 := (Mod.refl _ _).alloc e2
 refine ⟨A, n, c, hB.range_all, (items_ok (h.ext m1)).mono ?_⟩
 rintro v w2 ⟨rfl, m2⟩
 have hi := itm_le h.ok
 refine ⟨_, rfl, ?_, m1.trans m2⟩
 congr 1
 rw [wrap_i64 (by omega) (by omega)]; omega
theorem pages_ok (h : ShP w A n P) : Ret Tryz.prog 38 #[.agg ([.slice A n c] : List Value).toArray] w fun v w' => v = .int .i64 (P : Nat) ∧ Ext w w' := by
 refine L_38 A n c w _ ?_
 intro b1 w1 e1 e2
 have hB : Blk w1 b1 32 ([.slice A n c] : List Value).toArray := Blk.new e1 e2
 have m1 : Ext w w1 := (Mod.refl _ _).alloc e2
 have hn := h.n
 have := nl_le P
 obtain ⟨b, o, hA, hr⟩ := (h.ext m1).row
 exact ⟨A, n, c, by rw [hB.cell]; rfl, fun h0 => absurd h0 (by omega), fun _ => ⟨A, n, c, by rw [hB.cell]; rfl, b, o, hA, by decide, by omega, _, hr 1 (by omega), rfl, m1⟩⟩
def lvI (P : Nat) (x : Int) : Int := if 0 ≤ x ∧ x < itm P then (lvN P x.toNat : Nat) else -1
theorem level_ok (h : ShP w A n P) (x : Int) : Ret Tryz.prog 54 #[.agg ([.slice A n c] : List Value).toArray, .int .i64 x] w fun v w' => v = .int .i64 (lvI P x) ∧ Ext w w' := by
 refine L_54 A n c x w _ ?_
 intro b1 w1 e1 e2
 have hB : Blk w1 b1 32 ([.slice A n c] : List Value).toArray := Blk.new e1 e2
 have m1 : Ext w w1 := (Mod.refl _ _).alloc e2
 have hn := h.n
 have hnl := nl_le P
 refine ⟨fun h0 => ⟨by rw [lvI, if_neg (by omega)], m1⟩, fun h0 => ⟨A, n, c, hB.range_all, (levels_ok (h.ext m1)).mono ?_⟩⟩
 rintro v w2 ⟨rfl, m2⟩
 refine ⟨_, rfl, ?_⟩
 obtain ⟨i, rfl⟩ : ∃ i : Nat, x = i := ⟨x.toNat, by omega⟩
 refine ⟨fun x3 w3 => ∃ l : Nat, x3 = l ∧ l ≤ nl P ∧ (∀ m, m < l → ¬ i < st P (m + 1)) ∧ Ext w1 w3, fun x3 _ => (5 - x3).toNat, ⟨0, rfl, by omega, fun m hm => absurd hm (by omega), m2⟩, ?_⟩
 rintro x3 w3 ⟨l, rfl, hl, hno, m3⟩
 refine ⟨fun hlt => ?_, fun hge => ?_⟩
 ·obtain ⟨b, o, hA, hr⟩ := ((h.ext m1).ext m3).row
  have q : IntKind.i64.wrap ((l : Int) + 1) = ((l + 1 : Nat) : Int) := wrap_i64 (by omega) (by omega)
  rw [q]
  refine ⟨A, n, c, by rw [(hB.ext m3).cell]; rfl, b, o, hA, by omega, by omega, _, hr (l + 1) (by omega), fun hlt2 => ⟨?_, m1.trans m3⟩, fun hge2 => ⟨⟨l + 1, rfl, by omega, fun m hm => ?_, m3⟩, by dsimp only; omega⟩⟩
  ·have hii : i < itm P := by
    have hs : st P (l + 1) ≤ itm P := by
     unfold itm
     rcases nl_cases h.ok with ⟨e, _⟩ | ⟨e, _⟩ | ⟨e, _⟩ <;> rw [e] at hlt ⊢
     ·match l, hlt with
      | 0, _ => simp only [st]; omega
      | 1, _ => simp only [st]; omega
      | l + 2, h => omega
     ·match l, hlt with
      | 0, _ => simp only [st]; omega
      | 1, _ => simp only [st]; omega
      | 2, _ => simp only [st]; omega
      | l + 3, h => omega
     ·match l, hlt with
      | 0, _ => simp only [st]; omega
      | 1, _ => simp only [st]; omega
      | 2, _ => simp only [st]; omega
      | 3, _ => simp only [st]; omega
      | l + 4, h => omega
    omega
   have hl2 := lv_first h.ok hii (l := l) (by omega) (fun m hm => hno m hm) (by omega)
   rw [lvI, if_pos (by omega), Int.toNat_natCast, hl2]
  ·rcases Nat.lt_succ_iff_lt_or_eq.1 hm with hm | rfl
   ·exact hno m hm
   ·omega
 ·have hll : l = nl P := by omega
  subst hll
  refine ⟨?_, m1.trans m3⟩
  have hn2 := hno (nl P - 1) (by omega)
  have e : nl P - 1 + 1 = nl P := by omega
  rw [e] at hn2
  rw [lvI, if_neg]
  unfold itm
  omega
theorem lvI_ok (hP : 1 ≤ P ∧ P ≤ 216) {i : Nat} (hi : i < itm P) : lvI P i = (lvN P i : Nat) := by
 rw [lvI, if_pos (by omega), Int.toNat_natCast]
theorem parent_ok (h : ShP w A n P) {i : Nat} (hi : i < itm P) : Ret Tryz.prog 44 #[.agg ([.slice A n c] : List Value).toArray, .int .i64 i] w fun v w' =>
  v = (if i + 1 = itm P then .tuple #[.int .i64 0, .int .i64 0, .bool false] else .tuple #[.int .i64 (parP P i : Nat), .int .i64 (parA P i : Nat), .bool true]) ∧ Ext w w' := by
 refine L_44 A n c i w _ ?_
 intro b1 w1 e1 e2
 have hB : Blk w1 b1 32 ([.slice A n c] : List Value).toArray := Blk.new e1 e2
 have m1 : Ext w w1 := (Mod.refl _ _).alloc e2
 have hn := h.n
 have hnl := nl_le P
 have hil := itm_le h.ok
 obtain ⟨g1, g2, g3⟩ := lv_spec h.ok hi
 refine ⟨A, n, c, hB.range_all, (level_ok (h.ext m1) i).mono ?_⟩
 rintro v w2 ⟨rfl, m2⟩
 rw [lvI_ok h.ok hi]
 refine ⟨_, rfl, fun h0 => absurd h0 (by omega), fun _ => ⟨A, n, c, (hB.ext m2).range_all, (root_ok ((h.ext m1).ext m2)).mono ?_⟩⟩
 rintro v w3 ⟨rfl, m3⟩
 have m13 := m2.trans m3
 refine ⟨_, rfl, fun heq => ⟨by rw [if_pos (by omega)], m1.trans m13⟩, fun hne => ?_⟩
 obtain ⟨b, o, hA, hr⟩ := ((h.ext m1).ext m13).row
 have hs := st_le h.ok (lvN P i); have hs2 := st_le h.ok (lvN P i + 1)
 have q1 : IntKind.i64.wrap (((lvN P i : Nat) : Int) + 1) = ((lvN P i + 1 : Nat) : Int) := wrap_i64 (by omega) (by omega)
 have q2 : IntKind.i64.wrap ((i : Int) - ((st P (lvN P i) : Nat) : Int)) = ((i - st P (lvN P i) : Nat) : Int) := by rw [wrap_i64 (by omega) (by omega)]; omega
 have q3 : (((i - st P (lvN P i) : Nat) : Int)).tdiv 6 = (((i - st P (lvN P i)) / 6 : Nat) : Int) := tdiv_nat _ 6
 have q4 : (((i - st P (lvN P i) : Nat) : Int)).tmod 6 = (((i - st P (lvN P i)) % 6 : Nat) : Int) := tmod_nat _ 6
 have q5 : IntKind.i64.wrap (((i - st P (lvN P i)) / 6 : Nat) : Int) = (((i - st P (lvN P i)) / 6 : Nat) : Int) := wrap_i64 (by omega) (by omega)
 have q6 : IntKind.i64.wrap (((st P (lvN P i + 1) : Nat) : Int) + (((i - st P (lvN P i)) / 6 : Nat) : Int)) = ((parP P i : Nat) : Int) := by rw [wrap_i64 (by omega) (by omega)]; unfold parP; omega
 refine ⟨A, n, c, by rw [(hB.ext m13).cell]; rfl, b, o, hA, by omega, by omega, _, hr (lvN P i) (by omega), A, n, c, by rw [(hB.ext m13).cell]; rfl, b, o, hA, ?_⟩
 rw [q1, q2, q3, q4, q5]
 refine ⟨by omega, by omega, _, hr (lvN P i + 1) (by omega), ?_, m1.trans m13⟩
 rw [if_neg (by omega), q6]
 rfl
theorem blockno_ok (h : ShP w A n P) (x y : Int) : Ret Tryz.prog 45 #[.agg ([.slice A n c] : List Value).toArray, .int .i64 x, .int .i64 y] w fun v w' =>
  v = .int .i64 (if (0 ≤ x ∧ x < itm P) ∧ (y = 0 ∨ y = 1) then 2 + 2 * x + y else -1) ∧ Ext w w' := by
 refine L_45 A n c x y w _ ?_
 intro b1 w1 e1 e2
 have hB : Blk w1 b1 32 ([.slice A n c] : List Value).toArray := Blk.new e1 e2
 have m1 : Ext w w1 := (Mod.refl _ _).alloc e2
 have hil := itm_le h.ok
 refine ⟨A, n, c, hB.range_all, (level_ok (h.ext m1) x).mono ?_⟩
 rintro v w2 ⟨rfl, m2⟩
 have m := m1.trans m2
 refine ⟨_, rfl, fun h0 => ⟨?_, m⟩, fun h0 => ?_⟩
 ·rw [if_neg]
  rintro ⟨hx, _⟩
  rw [lvI, if_pos hx] at h0
  omega
 ·have hx : 0 ≤ x ∧ x < itm P := by
   unfold lvI at h0
   split at h0
   ·assumption
   ·omega
  refine ⟨fun h1 => ⟨by rw [if_neg (by omega)], m⟩, fun h1 => ⟨fun h2 => ⟨by rw [if_neg (by omega)], m⟩, fun h2 => ⟨?_, m⟩⟩⟩
  rw [if_pos ⟨hx, by omega⟩, wrap_i64 (x := 2 * x) (by omega) (by omega), wrap_i64 (x := 2 + 2 * x) (by omega) (by omega), wrap_i64 (by omega) (by omega)]
end
end Go.Proofs.YtpkfdhlkknanmaaGreat
