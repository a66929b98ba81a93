/-
 Commits: Need, the program's and the document's.
-/
import Derived.Test.YtpkfdhlkknanmaaGreatCommit2
set_option linter.all false
namespace Go.Proofs.YtpkfdhlkknanmaaGreat
open Go Go.RowKit Go.Proofs
def Over (P : Nat) (ps : List Int) (y : Int) : Prop := ∃ p ∈ ps, ∃ k q, 0 < k ∧ (pathI P p)[k]? = some q ∧ y = ((q : Nat) : Int)
theorem over_need {P : Nat} (h : 1 ≤ P ∧ P ≤ 216) {ps : List Int} {y : Int} : Over P ps y ↔ y ∈ Un (needN P ps) := by
 unfold Over Un
 rw [List.mem_map]
 constructor
 ·rintro ⟨p, hp, k, q, h0, hk, rfl⟩
  obtain ⟨h1, _, h3⟩ := path_at h hk
  exact ⟨q, need_mem.2 ⟨h1, h3.2 h0, p, hp, List.mem_of_getElem? hk⟩, rfl⟩
 ·rintro ⟨q, hq, rfl⟩
  obtain ⟨h1, h2, p, hp, hm⟩ := need_mem.1 hq
  obtain ⟨k, hkl, hk⟩ := List.mem_iff_getElem.1 hm
  have hk' : (pathI P p)[k]? = some q := by rw [List.getElem?_eq_getElem hkl, hk]
  exact ⟨p, hp, k, q, (path_at h hk').2.2.1 h2, hk', rfl⟩
theorem un_sorted {l : List Nat} (h : l.Pairwise (· < ·)) : (Un l).Pairwise (fun x y => x < y) := by
 unfold Un
 rw [List.pairwise_map]
 exact h.imp fun {a b} hab => by omega
section
variable {w : World} {A1 A2 : Option Addr} {n1 c1 n2 c2 P : Nat} {ps : List Int}
set_option maxHeartbeats 2000000 in
theorem need_ok (h : ShP w A1 n1 P) (hr : RdS w A2 (Iv .i64 ps)) (hl : ps.length = n2) (few : n2 ≤ 10000) : Ret Tryz.prog 15 #[.agg ([.slice A1 n1 c1] : List Value).toArray, .slice A2 n2 c2] w fun v w' =>
  ∃ A' c', v = .slice A' (needN P ps).length c' ∧ OX 3 .i64 w' w.heap.size A' c' (Un (needN P ps)) ∧ Ext w w' := by
 subst hl
 refine L_15 A1 n1 c1 A2 ps.length c2 w _ ?_
 intro b1 w1 e1 e2 b2 w2 e3 e4
 have hB : Blk w1 b1 32 ([.slice A1 n1 c1] : List Value).toArray := Blk.new e1 e2
 have m1 : Ext w w1 := (Mod.refl _ _).alloc e2
 have m2 : Ext w1 w2 := (Mod.refl _ _).alloc e4
 have m12 := m1.trans m2
 have hM := Mi.made (P := Tryz.prog) (k := 3) e3 e4
 have lb := hM.lt
 have hb12 : b1 < b2 := by rw [e3]; exact hB.lt
 have hbw : w.heap.size ≤ b2 := by have := m1.size; omega
 have hil := itm_le h.ok
 refine ⟨fun x w3 => ∃ i : Nat, x = i ∧ i ≤ ps.length ∧ ∃ m f, m ≤ 4 * i ∧ Mi Tryz.prog 3 w3 b2 m f ∧ (∀ y, (f y).isSome = true ↔ Over P (ps.take i) y) ∧ Mod (fun j => j = b2) w2 w3, fun x _ => ps.length - x.toNat,
  ⟨0, rfl, by omega, 0, _, by omega, hM, fun y => by simp [Over], Mod.refl _ _⟩, ?_⟩
 rintro x w3 ⟨i, rfl, hi, m, f, hm, hM3, hf, m3⟩
 have mw3 : Ext w w3 := Fro.ext ((Mod.of_ext m12).trans (m3.mono fun j hj e => by omega))
 have s3 := m3.size
 refine ⟨fun hlt => ?_, fun hge => ?_⟩
 ·obtain ⟨p, hp⟩ : ∃ p, ps[i]? = some p := ⟨_, List.getElem?_eq_getElem (by omega)⟩
  obtain ⟨b, o, hA, hc⟩ := (hr.ext mw3).at (Iv_get (k := .i64) hp)
  have hB3 := (hB.ext m2).mod m3 (by omega)
  refine ⟨b, o, hA, by omega, by omega, p, by rw [Int.toNat_natCast, Nat.mul_one]; exact hc, A1, n1, c1, hB3.range_all, (path_ok (h.ext mw3) p).mono ?_⟩
  rintro v w4 ⟨A4, c4, rfl, o4, m4⟩
  have hps := path_small P p
  refine ⟨A4, _, c4, rfl, fun x3 w5 => ∃ j : Nat, x3 = j ∧ j ≤ (pathI P p).length ∧ ∃ m' f', m' ≤ 4 * i + j ∧ Mi Tryz.prog 3 w5 b2 m' f' ∧ (∀ y, (f' y).isSome = true ↔ Over P (ps.take i) y ∨ ∃ k q, 0 < k ∧ k < j ∧ (pathI P p)[k]? = some q ∧ y = ((q : Nat) : Int)) ∧ Mod (fun j => j = b2) w4 w5, fun x3 _ => 10 - x3.toNat,
   ⟨0, rfl, by omega, m, f, by omega, hM3.ext m4, fun y => by rw [hf y]; simp, Mod.refl _ _⟩, ?_⟩
  rintro x3 w5 ⟨j, rfl, hj, m', f', hm', hM5, hf5, m5⟩
  have m25 : Mod (fun j => j = b2) w2 w5 := (m3.ext m4).trans m5
  refine ⟨fun hlt2 => ?_, fun hge2 => ?_⟩
  ·obtain ⟨q, hq⟩ : ∃ q, (pathI P p)[j]? = some q := ⟨_, List.getElem?_eq_getElem (by omega)⟩
   obtain ⟨hq1, hq2, hq3⟩ := path_at h.ok hq
   have hrd := (o4.rdp.mod m5 fun k hk e => by omega).rd
   obtain ⟨b', o', hA', hc'⟩ := hrd.at (Iv_get (k := .i64) (Un_get hq))
   have qw : IntKind.i64.wrap ((j : Int) + 1) = ((j + 1 : Nat) : Int) := wrap_i64 (by omega) (by omega)
   rw [qw]
   refine ⟨b', o', hA', by omega, by omega, ((q : Nat) : Int), by rw [Int.toNat_natCast, Nat.mul_one]; exact hc', fun hpos => ?_, fun hnp => ?_⟩
   ·refine ⟨m', f', hM5, ⟨by omega, by omega⟩, Nat.lt_of_le_of_lt (show m' ≤ 100000 by omega) (by decide), fun w6 hM6 m6 => ⟨⟨j + 1, rfl, by omega, m' + 1, _, by omega, hM6, fun y => ?_, m5.trans m6⟩, by dsimp only; omega⟩⟩
    unfold fSet
    split
    ·rename_i hy
     subst hy
     simp only [Option.isSome_some, true_iff]
     exact .inr ⟨j, q, by omega, by omega, hq, rfl⟩
    ·rename_i hy
     rw [hf5 y]
     refine or_congr Iff.rfl ⟨fun ⟨k, q', a, b, c, d⟩ => ⟨k, q', a, by omega, c, d⟩, fun ⟨k, q', a, b, c, d⟩ => ⟨k, q', a, ?_, c, d⟩⟩
     rcases Nat.lt_succ_iff_lt_or_eq.1 b with b | rfl
     ·exact b
     ·rw [hq] at c; cases c; exact absurd d hy
   ·obtain rfl : j = 0 := by omega
    refine ⟨⟨1, rfl, by omega, m', f', by omega, hM5, fun y => ?_, m5⟩, by dsimp only; omega⟩
    rw [hf5 y]
    exact or_congr Iff.rfl ⟨fun ⟨k, q', a, b, c, d⟩ => absurd b (by omega), fun ⟨k, q', a, b, c, d⟩ => absurd b (by omega)⟩
  ·obtain rfl : j = (pathI P p).length := by omega
   have qw : IntKind.i64.wrap ((i : Int) + 1) = ((i + 1 : Nat) : Int) := wrap_i64 (by omega) (by omega)
   rw [qw]
   refine ⟨⟨i + 1, rfl, by omega, m', f', by omega, hM5, fun y => ?_, m25⟩, by dsimp only; omega⟩
   rw [hf5 y]
   unfold Over
   rw [List.take_succ, hp]
   simp only [Option.toList_some, List.mem_append, List.mem_singleton]
   constructor
   ·rintro (⟨p', hp', k, q, a, b, c⟩ | ⟨k, q, a, _, b, c⟩)
    ·exact ⟨p', .inl hp', k, q, a, b, c⟩
    ·exact ⟨p, .inr rfl, k, q, a, b, c⟩
   ·rintro ⟨p', hp' | rfl, k, q, a, b, c⟩
    ·exact .inl ⟨p', hp', k, q, a, b, c⟩
    ·exact .inr ⟨k, q, a, (List.getElem?_eq_some_iff.1 b).1, b, c⟩
 ·obtain rfl : i = ps.length := by omega
  rw [List.take_length] at hf
  refine (keys_ok hM3 (by omega)).mono ?_
  rintro rv w7 h7
  refine ⟨rv, rfl, h7.mono ?_⟩
  rintro r w8 ⟨A, m8, c, ks, rfl, hk, _, o8, hs, hmem, m8'⟩
  have : ks = Un (needN P ps) := eq_of_sorted hs (un_sorted (need_sorted P ps)) fun x => by rw [hmem, hf, over_need h.ok]
  subst this
  rw [Un_len] at hk
  subst hk
  exact ⟨A, _, c, rfl, A, c, rfl, o8.mono mw3.size, mw3.trans m8'⟩
variable {x : Int} {A3 : Option Addr} {n3 c3 : Nat}
theorem need_snoc {P : Nat} {ps : List Int} {i : Nat} : (List.range (i + 1)).filter (needB P ps) = (List.range i).filter (needB P ps) ++ (if needB P ps i then [i] else []) := by
 rw [List.range_succ, List.filter_append]
 congr 1
 cases h : needB P ps i <;> simp [h]
theorem need_low {P : Nat} {ps : List Int} : (List.range P).filter (needB P ps) = [] := by
 rw [List.filter_eq_nil_iff]
 intro i hi
 simp only [List.mem_range] at hi
 simp only [needB, Bool.and_eq_true, decide_eq_true_eq, not_and]
 intro h; omega
set_option maxHeartbeats 2000000 in
theorem refneed_ok (h : ShR w x A1 n1 A2 n2 P) (hr : RdS w A3 (Iv .i64 ps)) (hl : ps.length = n3) (few : n3 ≤ 10000) : Ret Tryz.prog 25 #[.agg ([.int .i64 x, .slice A1 n1 c1, .slice A2 n2 c2] : List Value).toArray, .slice A3 n3 c3] w fun v w' =>
  ∃ A' c', v = .slice A' (needN P ps).length c' ∧ OX 3 .i64 w' w.heap.size A' c' (Un (needN P ps)) ∧ Ext w w' := by
 subst hl
 refine L_25 x A1 n1 c1 A2 n2 c2 A3 ps.length c3 w _ ?_
 intro b1 w1 e1 e2
 have hB : Blk w1 b1 37 ([.int .i64 x, .slice A1 n1 c1, .slice A2 n2 c2] : List Value).toArray := Blk.new e1 e2
 have m1 : Ext w w1 := (Mod.refl _ _).alloc e2
 have s1 := m1.size
 have hil := itm_le h.ok
 have hn1 := h.n1
 have hx := h.x
 refine ⟨x, by rw [hB.cell]; rfl, fun A4 n4 c4 y w2 => ∃ i : Nat, y = i ∧ P ≤ i ∧ i ≤ itm P ∧ n4 = ((List.range i).filter (needB P ps)).length ∧ OX 3 .i64 w2 w1.heap.size A4 c4 (Un ((List.range i).filter (needB P ps))) ∧ Ext w1 w2, fun _ _ _ y _ => itm P - y.toNat,
  ⟨P, hx, Nat.le_refl _, by omega, by rw [need_low]; rfl, by rw [need_low]; exact OX.nil _ _ _ _, Mod.refl _ _⟩, ?_⟩
 rintro A4 n4 c4 y w2 ⟨i, rfl, hPi, hi, rfl, o2, m2⟩
 refine ⟨A1, n1, c1, by rw [(hB.ext m2).cell]; rfl, fun hlt => ?_, fun hge => ?_⟩
 ·have qi : IntKind.i64.wrap ((i : Int) + 1) = ((i + 1 : Nat) : Int) := wrap_i64 (by omega) (by omega)
  rw [qi]
  have hfl := List.length_filter_le (needB P ps) (List.range i)
  rw [List.length_range] at hfl
  refine ⟨fun A6 n6 c6 z w3 => ∃ j : Nat, z = j ∧ j ≤ ps.length ∧ (∀ k p, k < j → ps[k]? = some p → i ∉ pathI P p) ∧ A6 = A4 ∧ n6 = ((List.range i).filter (needB P ps)).length ∧ c6 = c4 ∧ OX 3 .i64 w3 w1.heap.size A4 c4 (Un ((List.range i).filter (needB P ps))) ∧ Ext w1 w3, fun _ _ _ z _ => ps.length - z.toNat,
   ⟨0, rfl, by omega, fun k p hk => absurd hk (by omega), rfl, rfl, rfl, o2, m2⟩, ?_⟩
  rintro A6 n6 c6 z w3 ⟨j, rfl, hj, hno, rfl, rfl, rfl, o3, m3⟩
  have mw3 := m1.trans m3
  refine ⟨fun hlt2 => ?_, fun hge2 => ?_⟩
  ·intro w4 e4
   have m4 : Ext w3 w4 := (Mod.refl _ _).drew e4
   have mw4 := mw3.trans m4
   obtain ⟨p, hp⟩ : ∃ p, ps[j]? = some p := ⟨_, List.getElem?_eq_getElem (by omega)⟩
   obtain ⟨b, o, hA, hc⟩ := (hr.ext mw3).at (Iv_get (k := .i64) hp)
   refine ⟨x, A1, n1, c1, A2, n2, c2, (hB.ext m3).range_all, b, o, hA, by omega, by omega, p, by rw [Int.toNat_natCast, Nat.mul_one]; exact hc, (refpath_ok (h.ext mw4) p).mono ?_⟩
   rintro v w5 ⟨A9, c9, rfl, o5, m5⟩
   have hps := path_small P p
   refine ⟨A9, _, c9, rfl, (has_ok o5.rd (Un_len _) (by omega) _).mono ?_⟩
   rintro v w6 ⟨rfl, rfl⟩
   have m36 := m4.trans m5
   have hcon : (Un (pathI P p)).contains ((i : Nat) : Int) = (pathI P p).contains i := by
    rw [Bool.eq_iff_iff, List.contains_iff_mem, List.contains_iff_mem]
    simp only [Un, List.mem_map]
    exact ⟨fun ⟨a, ha, e⟩ => (show a = i by omega) ▸ ha, fun ha => ⟨i, ha, rfl⟩⟩
   rw [hcon]
   refine ⟨_, rfl, fun hb => ?_, fun hb => ⟨⟨j + 1, by rw [wrap_i64 (by omega) (by omega)]; rfl, by omega, fun k p' hk hp' => ?_, rfl, rfl, rfl, o3.ext m36, m3.trans m36⟩, by rw [wrap_i64 (by omega) (by omega)]; dsimp only; omega⟩⟩
   ·intro b3 w7 e7 e8
    have hnb : needB P ps i = true := by
     simp only [needB, Bool.and_eq_true, decide_eq_true_eq, List.any_eq_true]
     exact ⟨hPi, p, List.mem_of_getElem? hp, hb⟩
    have m16 := m3.trans m36
    refine (o3.ext m36).pushX (by have := m16.size; omega) (by rw [Un_len]) e7 e8 (by omega) (by decide) fun A' c' w8 o8 m8 _ => ⟨⟨i + 1, rfl, by omega, by omega, ?_, ?_, ?_⟩, by dsimp only; omega⟩
    ·rw [need_snoc, hnb]; simp
    ·rw [need_snoc, hnb, if_pos rfl, ← Un_snoc]; exact o8
    ·exact Fro.ext ((Mod.of_ext m16).trans (m8.mono fun j hj ⟨o, e⟩ => (Own.base o3 j o e).1))
   ·rcases Nat.lt_succ_iff_lt_or_eq.1 hk with hk | rfl
    ·exact hno k p' hk hp'
    ·rw [hp] at hp'; cases hp'
     rw [← Bool.not_eq_true, List.contains_iff_mem] at hb
     exact hb
  ·obtain rfl : j = ps.length := by omega
   have hnb : needB P ps i = false := by
    rw [← Bool.not_eq_true]
    simp only [needB, Bool.and_eq_true, decide_eq_true_eq, List.any_eq_true, not_and]
    rintro _ ⟨p, hp, hc⟩
    obtain ⟨k, hkl, hk⟩ := List.mem_iff_getElem.1 hp
    rw [List.contains_iff_mem] at hc
    exact hno k p hkl (by rw [List.getElem?_eq_getElem hkl, hk]) hc
   refine ⟨⟨i + 1, rfl, by omega, by omega, ?_, ?_, m3⟩, by dsimp only; omega⟩
   ·rw [need_snoc, hnb]; simp
   ·rw [need_snoc, hnb]; simpa using o3
 ·obtain rfl : i = itm P := by omega
  exact ⟨A4, c4, rfl, o2.mono s1, m1.trans m2⟩
end
end Go.Proofs.YtpkfdhlkknanmaaGreat
