/-
 slices.Sorted(maps.Keys(m)) of a map whose keys are ints: the keys, rising.
-/
import Derived.Test.YtpkfdhlkknanmaaGreatNode
import Derived.Test.YtpkfdhlkknanmaaGreatLay
set_option linter.all false
namespace Go.Proofs.YtpkfdhlkknanmaaGreat
open Go Go.RowKit Go.Proofs Go.Maps Go.Shelf
theorem pair_lt {l : List Int} (h : l.Pairwise (fun x y => x ≤ y)) (hn : l.Nodup) : l.Pairwise (fun x y => x < y) :=
 (h.and hn).imp fun {a b} ⟨h1, h2⟩ => by omega
section
variable {w : World} {b n : Nat} {f : Int → Option Value}
theorem key_list {D : DataW Value} (h : w.ownsMap Tryz.prog 3 RV b n D) (hh : ∀ x, has D (.int .i64 x) = (f x).isSome) : (intKeys D).Nodup ∧ ∀ x, x ∈ intKeys D ↔ (f x).isSome = true := by
 have K : Keyed Tryz.prog 3 := int_keyed Tryz.underlying3
 obtain ⟨es, hD, hpw, _⟩ := h.entries K
 obtain ⟨es', hD', hko⟩ := h.keysOf
 obtain rfl : es = es' := by rw [hD] at hD'; simpa using hD'
 subst hD
 have hk : ∀ p ∈ es, ∃ x, p.1 = .int .i64 x := fun p hp => by
  obtain ⟨v, hv⟩ := hko p hp
  obtain ⟨x, _, hx, _⟩ := Maps.keyOf_i64 Tryz.underlying3 hv
  exact ⟨x, hx⟩
 constructor
 ·show (es.map fun p => _root_.Go.intOf p.1).Nodup
  refine List.pairwise_map.2 (hpw.imp_of_mem fun {p q} hp' hq' hne e => hne ?_)
  obtain ⟨a, ha⟩ := hk p hp'
  obtain ⟨b, hb⟩ := hk q hq'
  rw [ha, hb] at e ⊢
  exact congrArg _ e
 ·intro x
  rw [← hh x, has_eq, List.any_eq_true]
  show x ∈ es.map (fun p => _root_.Go.intOf p.1) ↔ _
  rw [List.mem_map]
  constructor
  ·rintro ⟨p, hp', rfl⟩
   obtain ⟨a, ha⟩ := hk p hp'
   exact ⟨p, hp', by rw [ha]; simp [Lit.sameKey, _root_.Go.intOf]⟩
  ·rintro ⟨p, hp', hs⟩
   obtain ⟨a, ha⟩ := hk p hp'
   rw [ha] at hs
   exact ⟨p, hp', by rw [ha]; simpa [Lit.sameKey, _root_.Go.intOf] using hs⟩
theorem sorts_in (m : Nat) : AnyZI.SortsIn Tryz.prog Tryz.sortedA_ren Fence.wide m :=
 ⟨fun blk off cap ss W hH hblk hsz => callsIn_wide.2 (AnyM.slices_Sort_int Tryz.sortA blk off cap ss W hH hblk hsz),
 fun p cap W => callsIn_wide.2 (AnyM.slices_Sort_int_none Tryz.sortA p cap W)⟩
theorem keys_ok (h : Mi Tryz.prog 3 w b n f) (few : n ≤ 1000000) :
  Ret Tryz.prog 37 #[.map (some b)] w fun rv w7 => Ret Tryz.prog 36 #[rv] w7 fun r w8 => ∃ A m c ks, r = .slice A m c ∧ ks.length = m ∧ m ≤ n ∧
   OX 3 .i64 w8 w.heap.size A c ks ∧ ks.Pairwise (fun x y => x < y) ∧ (∀ x, x ∈ ks ↔ (f x).isSome = true) ∧ Ext w w8 := by
 obtain ⟨D, hown, hh, _⟩ := h
 obtain ⟨hnd, hmem⟩ := key_list hown hh
 have hsz := hown.size_le
 have hmx : (1000000 : Nat) ≤ maxLen := by decide
 have hbl := hown.lt
 have hseq : SeqGives Fence.wide 2 Tryz.prog 57 #[.pointer (some ⟨w.heap.size, 0, none⟩)] encZ (fun ss => ss.Perm (intKeys D)) (Maps.size D) (w.alloc (.cells #[.map (some b)] 104)) :=
  AnyZI.keys_gives (ρ := Tryz.keysA_ren) { Tryz.keysA with } Fence.wide _ trivial rfl (by omega) w.heap.size b n D _ (by simp) (by simp) (by
   obtain ⟨es, clock, hb, Ft, hs, hD⟩ := hown
   exact ⟨es, clock, (Below.heap_alloc _ _ b hbl).trans hb, Ft, hs, hD⟩)
 have cK : CallsIn Fence.wide 6 Tryz.prog 37 #[.map (some b)] w fun e w' => e = .returned (.func (.func 57) #[] #[.pointer (some ⟨w.heap.size, 0, none⟩)]) ∧ w' = w.alloc (.cells #[.map (some b)] 104) :=
  AnyZI.keys_in Tryz.keysA Fence.wide 6 trivial rfl (some b) w
 have cS := AnyZI.sorted_in Tryz.sortedA Fence.wide 5 trivial trivial trivial trivial rfl (by omega) (sorts_in _) (enters_of Tryz.func56 (by kernel_rfl) rfl) 57 #[.pointer (some ⟨w.heap.size, 0, none⟩)] trivial (enters_of Tryz.func57 (by kernel_rfl) rfl) _ _ (by omega) (by omega) _ hseq
 change CallsIn _ _ Tryz.prog 36 _ _ _ at cS
 refine Calls.mono (callsIn_wide.1 cK) ?_
 rintro e w7 ⟨rfl, rfl⟩
 refine ⟨_, rfl, Calls.mono (callsIn_wide.1 cS) ?_⟩
 rintro e w8 ⟨v, ss, rfl, hS, hrow, _, hb⟩
 refine ⟨v, rfl, ?_⟩
 have hperm : (ss.mergeSort fun x y => decide (x ≤ y)).Perm ss := List.mergeSort_perm _ _
 have hle : (ss.mergeSort fun x y => decide (x ≤ y)).Pairwise (fun x y => x ≤ y) := by
  have := List.pairwise_mergeSort (le := fun (x y : Int) => decide (x ≤ y)) (fun a b c h1 h2 => by simp only [decide_eq_true_eq] at *; omega) (fun a b => by simp only [Bool.or_eq_true, decide_eq_true_eq]; omega) ss
  exact this.imp fun {a b} h => by simpa using h
 generalize hks : (ss.mergeSort fun x y => decide (x ≤ y)) = ks at *
 have hkD : ks.Perm (intKeys D) := hperm.trans hS
 have hlen : ss.length = ks.length := hperm.length_eq.symm
 have hDl : (intKeys D).length = Maps.size D := by
  obtain ⟨es, rfl⟩ := hown.isMap
  simp [intKeys, size_eq]
 have hN : ks.length ≤ n := by rw [hkD.length_eq, hDl]; exact hsz
 have hvs : ∃ A c, v = .slice A ks.length c := by
  rcases hrow.2 with ⟨hv, h0⟩ | ⟨g, cap, cur, hv, _⟩
  ·exact ⟨none, 0, by rw [hv, ← hlen, h0]⟩
  ·exact ⟨_, _, by rw [hv, hlen]⟩
 obtain ⟨A, c, rfl⟩ := hvs
 refine ⟨A, ks.length, c, ks, rfl, rfl, hN, ?_, pair_lt hle (hkD.nodup_iff.2 hnd), fun x => by rw [hkD.mem_iff, hmem], ?_⟩
 ·have : Own w8 (w.alloc (.cells #[.map (some b)] 104)).heap.size 3 1 A ks.length c (Iv .i64 ks) := by
   rw [hlen] at hrow
   exact hrow
  exact Own.mono this (by simp)
 ·exact ((Mod.refl _ _).alloc rfl).trans ⟨hb.os, hb.tape, hb.output, hb.size, fun k hk _ => hb.block k hk⟩
end
end Go.Proofs.YtpkfdhlkknanmaaGreat
