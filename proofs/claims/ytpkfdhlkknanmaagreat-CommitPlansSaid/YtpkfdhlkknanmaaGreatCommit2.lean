/-
 Commits: a node is found; what pages need.
-/
import Derived.Test.YtpkfdhlkknanmaaGreatCommit
set_option linter.all false
namespace Go.Proofs.YtpkfdhlkknanmaaGreat
open Go Go.RowKit Go.Proofs
section
variable {w : World} {A : Option Addr} {n c : Nat} {l : List (Int × List Rf)}
set_option maxHeartbeats 1000000 in
theorem find_ok (h : PrS Rc w A l) (hl : l.length = n) (hok : NdOk l) (few : n ≤ 100000) (x : Int) : Ret Tryz.prog 19 #[.slice A n c, .int .i64 x] w fun v w' => Ext w w' ∧
  ((fnd l x = none ∧ v = .tuple #[.slice none 0 0, .bool false]) ∨ ∃ rs A' c', fnd l x = some rs ∧ v = .tuple #[.slice A' rs.length c', .bool true] ∧ OR 46 w' w.heap.size A' c' rs) := by
 subst hl
 refine L_19 A l.length c x w _ ?_
 intro b1 w1 e1 e2
 have hB : Blk w1 b1 3 #[.int .i64 x] := Blk.new e1 e2
 have m1 : Ext w w1 := (Mod.refl _ _).alloc e2
 have s1 := m1.size
 refine (L_42 A l.length c _ w1 (fun v w' => Ext w1 w' ∧ ((fnd l x = none ∧ v = .int .i64 (-1)) ∨ ∃ (i : Nat) (y : Int × List Rf), l[i]? = some y ∧ fnd l x = some y.2 ∧ v = .int .i64 i)) ?_).mono ?_
 ·refine ⟨fun x1 w2 => ∃ i : Nat, x1 = i ∧ i ≤ l.length ∧ (∀ k y, k < i → l[k]? = some y → y.1 ≠ x) ∧ Ext w1 w2, fun x1 _ => l.length - x1.toNat, ⟨0, rfl, by omega, fun k y hk => absurd hk (by omega), Mod.refl _ _⟩, ?_⟩
  rintro x1 w2 ⟨i, rfl, hi, hno, m2⟩
  refine ⟨fun hlt => ?_, fun hge => ?_⟩
  ·obtain ⟨y, hy⟩ : ∃ y, l[i]? = some y := ⟨_, List.getElem?_eq_getElem (by omega)⟩
   obtain ⟨b, o, A', c', hA, hr, _⟩ := (h.ext (m1.trans m2)).at hy
   have hc2 : w2.cell? ⟨b1, 0, none⟩ = some (.int .i64 x) := by rw [(hB.ext m2).cell]; rfl
   refine ⟨b, o, hA, by omega, by omega, y.1, A', _, c', hr, 43, #[.pointer (some ⟨b1, 0, none⟩)], ⟨rfl, enters_of Tryz.func43 (by kernel_rfl) rfl⟩, ?_⟩
   refine (find1_ok (x := y.1) (A := A') (n := y.2.length) (c := c') hc2).mono ?_
   rintro v w3 ⟨rfl, m3⟩
   have q : IntKind.i64.wrap ((i : Int) + 1) = ((i + 1 : Nat) : Int) := wrap_i64 (by omega) (by omega)
   rw [q]
   refine ⟨_, rfl, fun hb => ⟨m2.trans m3, .inr ⟨i, y, hy, fnd_at hy (by simpa using hb) hno, rfl⟩⟩, fun hb => ⟨⟨i + 1, rfl, by omega, fun k z hk hz => ?_, m2.trans m3⟩, by dsimp only; omega⟩⟩
   rcases Nat.lt_succ_iff_lt_or_eq.1 hk with hk | rfl
   ·exact hno k z hk hz
   ·rw [hy] at hz; cases hz
    simpa using hb
  ·obtain rfl : i = l.length := by omega
   exact ⟨m2, .inl ⟨fnd_none fun k y hk hy => hno k y hk hy, rfl⟩⟩
 ·rintro v w2 ⟨m2, ⟨hf, rfl⟩ | ⟨i, y, hy, hf, rfl⟩⟩
  ·exact ⟨_, rfl, fun _ => ⟨m1.trans m2, .inl ⟨hf, rfl⟩⟩, fun h => absurd h (by decide)⟩
  ·have hil := (List.getElem?_eq_some_iff.1 hy).1
   refine ⟨_, rfl, fun h => absurd h (by omega), fun _ => ?_⟩
   obtain ⟨b, o, A', c', hA, hr, hx⟩ := (h.ext (m1.trans m2)).at hy
   obtain ⟨hrs, h1000⟩ := fnd_ok hok hf
   refine ⟨b, o, hA, by omega, by omega, A', _, c', by have := hr 1 _ rfl; exact this, (clonerefs_ok rfl hx hrs (by omega)).mono ?_⟩
   rintro v w3 ⟨A3, c3, rfl, o3, m3⟩
   have m13 := (m1.trans m2).trans m3
   exact ⟨A3, _, c3, rfl, m13, .inr ⟨y.2, A3, c3, hf, rfl, Own.mono o3 (m1.trans m2).size⟩⟩
theorem reffind_ok (h : PrS Rc w A l) (hl : l.length = n) (few : n ≤ 100000) (x : Int) : Ret Tryz.prog 28 #[.slice A n c, .int .i64 x] w fun v w' => Ext w w' ∧
  ((fnd l x = none ∧ v = .tuple #[.slice none 0 0, .bool false]) ∨ ∃ rs A' c', fnd l x = some rs ∧ v = .tuple #[.slice A' rs.length c', .bool true] ∧ RdS w A' (Rc rs)) := by
 subst hl
 refine L_28 A l.length c x w _ ?_
 refine ⟨fun x1 w2 => ∃ i : Nat, x1 = i ∧ i ≤ l.length ∧ (∀ k y, k < i → l[k]? = some y → y.1 ≠ x) ∧ w2 = w, fun x1 _ => l.length - x1.toNat, ⟨0, rfl, by omega, fun k y hk => absurd hk (by omega), rfl⟩, ?_⟩
 rintro x1 w2 ⟨i, rfl, hi, hno, rfl⟩
 refine ⟨fun hlt => ?_, fun hge => ?_⟩
 ·obtain ⟨y, hy⟩ : ∃ y, l[i]? = some y := ⟨_, List.getElem?_eq_getElem (by omega)⟩
  obtain ⟨b, o, A', c', hA, hr, hx⟩ := h.at hy
  have q : IntKind.i64.wrap ((i : Int) + 1) = ((i + 1 : Nat) : Int) := wrap_i64 (by omega) (by omega)
  rw [q]
  refine ⟨b, o, hA, by omega, by omega, y.1, hr 0 _ rfl, fun hb => ⟨by omega, by omega, A', _, c', hr 1 _ rfl, Mod.refl _ _, .inr ⟨y.2, A', c', fnd_at hy hb hno, rfl, hx⟩⟩, fun hb => ⟨⟨i + 1, rfl, by omega, fun k z hk hz => ?_, rfl⟩, by dsimp only; omega⟩⟩
  rcases Nat.lt_succ_iff_lt_or_eq.1 hk with hk | rfl
  ·exact hno k z hk hz
  ·rw [hy] at hz; cases hz
   exact hb
 ·obtain rfl : i = l.length := by omega
  exact ⟨Mod.refl _ _, .inl ⟨fnd_none fun k y hk hy => hno k y hk hy, rfl⟩⟩
end
section
variable {w : World} {A : Option Addr} {n c : Nat}
theorem has_ok {l : List Int} (h : RdS w A (Iv .i64 l)) (hl : l.length = n) (few : n ≤ 100000) (x : Int) : Ret Tryz.prog 27 #[.slice A n c, .int .i64 x] w fun v w' => v = .bool (l.contains x) ∧ w' = w := by
 subst hl
 refine L_27 A l.length c x w _ ?_
 refine ⟨fun x1 w2 => ∃ i : Nat, x1 = i ∧ i ≤ l.length ∧ x ∉ l.take i ∧ w2 = w, fun x1 _ => l.length - x1.toNat, ⟨0, rfl, by omega, by simp, rfl⟩, ?_⟩
 rintro x1 w2 ⟨i, rfl, hi, hno, rfl⟩
 refine ⟨fun hlt => ?_, fun hge => ?_⟩
 ·obtain ⟨y, hy⟩ : ∃ y, l[i]? = some y := ⟨_, List.getElem?_eq_getElem (by omega)⟩
  obtain ⟨b, o, hA, hc⟩ := h.at (Iv_get (k := .i64) hy)
  have q : IntKind.i64.wrap ((i : Int) + 1) = ((i + 1 : Nat) : Int) := wrap_i64 (by omega) (by omega)
  rw [q]
  refine ⟨b, o, hA, by omega, by omega, y, by rw [Int.toNat_natCast, Nat.mul_one]; exact hc, fun hb => ⟨?_, rfl⟩, fun hb => ⟨⟨i + 1, rfl, by omega, ?_, rfl⟩, by dsimp only; omega⟩⟩
  ·subst hb
   congr 1; symm; rw [List.contains_iff_mem]
   exact List.mem_of_getElem? hy
  ·rw [List.take_succ, hy]
   simp only [Option.toList_some, List.mem_append, List.mem_singleton, not_or]
   exact ⟨hno, fun e => hb e.symm⟩
 ·obtain rfl : i = l.length := by omega
  rw [List.take_length] at hno
  refine ⟨?_, rfl⟩
  congr 1; symm
  rw [← Bool.not_eq_true, List.contains_iff_mem]; exact hno
end
def needB (P : Nat) (ps : List Int) (i : Nat) : Bool := decide (P ≤ i) && ps.any fun p => (pathI P p).contains i
def needN (P : Nat) (ps : List Int) : List Nat := (List.range (itm P)).filter (needB P ps)
theorem need_mem {P : Nat} {ps : List Int} {i : Nat} : i ∈ needN P ps ↔ i < itm P ∧ P ≤ i ∧ ∃ p ∈ ps, i ∈ pathI P p := by
 simp [needN, needB]
theorem need_sorted (P : Nat) (ps : List Int) : (needN P ps).Pairwise (· < ·) := List.pairwise_lt_range.filter _
theorem need_len {P : Nat} (h : 1 ≤ P ∧ P ≤ 216) (ps : List Int) : (needN P ps).length ≤ 260 := by
 have := List.length_filter_le (needB P ps) (List.range (itm P))
 have h2 := (itm_le h).2
 rw [List.length_range] at this
 exact Nat.le_trans this h2
theorem eq_of_sorted {a b : List Int} (ha : a.Pairwise (fun x y => x < y)) (hb : b.Pairwise (fun x y => x < y)) (h : ∀ x, x ∈ a ↔ x ∈ b) : a = b := by
 have na : a.Nodup := ha.imp fun {x y} hxy => by omega
 have nb : b.Nodup := hb.imp fun {x y} hxy => by omega
 exact List.Perm.eq_of_pairwise (le := fun x y : Int => x < y) (fun x y _ _ h1 h2 => by omega) ha hb ((List.perm_ext_iff_of_nodup na nb).2 h)
theorem path_at {P : Nat} (h : 1 ≤ P ∧ P ≤ 216) {p : Int} {k i : Nat} (hk : (pathI P p)[k]? = some i) : i < itm P ∧ lvN P i = k ∧ (P ≤ i ↔ 0 < k) := by
 unfold pathI at hk
 split at hk
 ·rename_i hp
  unfold pathN at hk
  have hkl : k < nl P := by
   have := (List.getElem?_eq_some_iff.1 hk).1
   simpa using this
  rw [List.getElem?_map, List.getElem?_range hkl] at hk
  simp only [Option.map_some, Option.some.injEq] at hk
  subst hk
  obtain ⟨h1, h2⟩ := up_lv h (p := p.toNat) (by omega) k hkl
  refine ⟨h1, h2, ?_⟩
  obtain ⟨g1, g2, g3⟩ := lv_spec h h1
  unfold lvN at h2
  split at h2
  ·omega
  ·split at h2
   ·omega
   ·split at h2 <;> omega
 ·simp at hk
theorem path_small (P : Nat) (p : Int) : (pathI P p).length ≤ 4 := by
 have := nl_le P
 unfold pathI
 split
 ·rw [path_len]; omega
 ·simp
end Go.Proofs.YtpkfdhlkknanmaaGreat
