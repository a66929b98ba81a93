/-
 What is known of memory: worlds that differ in few blocks, slices that read as lists, rows of the call's own.
-/
import Derived.Test.YtpkfdhlkknanmaaGreatOpt
import Derived.Laws.CopyOwn
set_option linter.all false
namespace Go.Proofs.YtpkfdhlkknanmaaGreat
open Go Go.RowKit
/-- Of the blocks that were there only those that meet 'ψ' may be others. -/
structure Mod (ψ : Nat → Prop) (w w' : World) : Prop where
 os : w'.os = w.os
 tape : w'.tape = w.tape
 output : w'.output = w.output
 size : w.heap.size ≤ w'.heap.size
 block : ∀ k, k < w.heap.size → ¬ ψ k → w'.heap[k]? = w.heap[k]?
abbrev Ext (w w' : World) : Prop := Mod (fun _ => False) w w'
section
variable {ψ φ : Nat → Prop} {w0 w w' w'' : World}
theorem Mod.refl (ψ : Nat → Prop) (w : World) : Mod ψ w w := ⟨rfl, rfl, rfl, Nat.le_refl _, fun _ _ _ => rfl⟩
theorem Mod.trans (h : Mod ψ w w') (k : Mod ψ w' w'') : Mod ψ w w'' :=
 ⟨k.os.trans h.os, k.tape.trans h.tape, k.output.trans h.output, Nat.le_trans h.size k.size, fun i hi hn => (k.block i (Nat.lt_of_lt_of_le hi h.size) hn).trans (h.block i hi hn)⟩
theorem Mod.mono (h : Mod ψ w w') (hp : ∀ k, k < w.heap.size → ψ k → φ k) : Mod φ w w' := ⟨h.os, h.tape, h.output, h.size, fun k hk hn => h.block k hk fun hp' => hn (hp k hk hp')⟩
theorem Mod.of_ext (h : Ext w w') : Mod ψ w w' := h.mono fun _ _ h => h.elim
theorem Mod.ext (h : Mod ψ w0 w) (k : Ext w w') : Mod ψ w0 w' := h.trans (Mod.of_ext k)
theorem Mod.drew (h : Mod ψ w0 w) (e : w' = w.drew) : Mod ψ w0 w' := by subst e; exact ⟨h.os, h.tape, h.output, h.size, h.block⟩
theorem Mod.alloc {o : Obj} (h : Mod ψ w0 w) (e : w' = w.alloc o) : Mod ψ w0 w' := by
 subst e
 exact h.trans ⟨rfl, rfl, rfl, by simp, fun k hk _ => Below.heap_alloc _ _ _ hk⟩
/-- A store into a block that is new, or that may be written. -/
theorem Mod.set {p : Addr} {v : Value} (h : Mod ψ w0 w) (hp : w0.heap.size ≤ p.block ∨ ψ p.block) (e : w' = w.setCell p v) : Mod ψ w0 w' := by
 subst e
 refine ⟨h.os, h.tape, h.output, by simpa [World.setCell] using h.size, fun k hk hn => ?_⟩
 rw [Below.heap_setCell _ _ _ _ (by
   rintro rfl
   rcases hp with hp | hp
   ·omega
   ·exact hn hp)]
 exact h.block k hk hn
theorem heap_setCells (b : Nat) : ∀ (cs : List Value) (o : Nat) (w : World) (k : Nat), k ≠ b → (w.setCells b o cs).heap[k]? = w.heap[k]?
 | [], _, _, _, _ => rfl
 | v :: r, o, w, k, h => by
  rw [World.setCells, heap_setCells b r _ _ k h, Below.heap_setCell _ _ _ _ h]
theorem size_setCells (b : Nat) : ∀ (cs : List Value) (o : Nat) (w : World), (w.setCells b o cs).heap.size = w.heap.size
 | [], _, _ => rfl
 | v :: r, o, w => by rw [World.setCells, size_setCells b r]; simp [World.setCell]
theorem os_setCells (b : Nat) : ∀ (cs : List Value) (o : Nat) (w : World), (w.setCells b o cs).os = w.os ∧ (w.setCells b o cs).tape = w.tape ∧ (w.setCells b o cs).output = w.output
 | [], _, _ => ⟨rfl, rfl, rfl⟩
 | v :: r, o, w => by rw [World.setCells]; exact os_setCells b r _ _
theorem Mod.sets {b o : Nat} {cs : List Value} (h : Mod ψ w0 w) (hp : w0.heap.size ≤ b ∨ ψ b) (e : w' = w.setCells b o cs) : Mod ψ w0 w' := by
 subst e
 obtain ⟨h1, h2, h3⟩ := os_setCells b cs o w
 refine ⟨h1.trans h.os, h2.trans h.tape, h3.trans h.output, by rw [size_setCells]; exact h.size, fun k hk hn => ?_⟩
 rw [heap_setCells _ _ _ _ _ (by
   rintro rfl
   rcases hp with hp | hp
   ·omega
   ·exact hn hp)]
 exact h.block k hk hn
/-- What is done behind: to what is new, or may be written. -/
theorem Mod.then {χ : Nat → Prop} (h : Mod ψ w0 w) (k : Mod χ w w') (hp : ∀ n, n < w0.heap.size → χ n → ψ n) : Mod ψ w0 w' :=
 ⟨k.os.trans h.os, k.tape.trans h.tape, k.output.trans h.output, Nat.le_trans h.size k.size,
  fun i hi hn => (k.block i (Nat.lt_of_lt_of_le hi h.size) fun hc => hn (hp i hi hc)).trans (h.block i hi hn)⟩
theorem Mod.keep (h : Ext w w') : Keep w w' := fun k hk => h.block k hk id
theorem Mod.below {B : Nat} (h : Mod ψ w w') (hB : ∀ k, k < B → k < w.heap.size ∧ ¬ ψ k) : Below B w w' :=
 ⟨h.os, h.tape, h.output, h.size, fun k hk => h.block k (hB k hk).1 (hB k hk).2⟩
theorem Keep.trans (h : Keep w w') (k : Keep w' w'') (hs : w.heap.size ≤ w'.heap.size) : Keep w w'' := fun i hi => (k i (by omega)).trans (h i hi)
/-! ### slices that read as lists -/
def RdP (φ : Nat → Prop) (w : World) (A : Option Addr) (xs : List Value) : Prop := xs = [] ∨ ∃ b o, φ b ∧ A = some ⟨b, o, none⟩ ∧ w.rangeAt b o xs
theorem RdP.rd {A : Option Addr} {xs : List Value} (h : RdP φ w A xs) : RdS w A xs := h.imp id fun ⟨b, o, _, h⟩ => ⟨b, o, h⟩
theorem RdP.mono {A : Option Addr} {xs : List Value} (h : RdP φ w A xs) (hp : ∀ k, k < w.heap.size → φ k → ψ k) : RdP ψ w A xs := by
 rcases h with rfl | ⟨b, o, hb, e, hr⟩
 ·exact .inl rfl
 ·cases xs with
  | nil => exact .inl rfl
  | cons x xs => exact .inr ⟨b, o, hp b (block_lt_of_cell (a := ⟨b, o + 0, none⟩) (hr 0 x rfl)) hb, e, hr⟩
theorem RdP.lt {A : Option Addr} {xs : List Value} (h : RdP φ w A xs) : RdP (fun k => φ k ∧ k < w.heap.size) w A xs := h.mono fun _ a b => ⟨b, a⟩
theorem range_mod {b o : Nat} {xs : List Value} (h : w.rangeAt b o xs) (hm : Mod ψ w w') (hn : ¬ ψ b) : w'.rangeAt b o xs := fun j v hj =>
 (World.cell?_of_block (hm.block b (block_lt_of_cell (h j v hj)) hn)).trans (h j v hj)
theorem RdP.mod {A : Option Addr} {xs : List Value} (h : RdP φ w A xs) (hm : Mod ψ w w') (hn : ∀ k, φ k → ¬ ψ k) : RdP φ w' A xs := by
 rcases h with rfl | ⟨b, o, hb, e, hr⟩
 ·exact .inl rfl
 ·exact .inr ⟨b, o, hb, e, range_mod hr hm (hn b hb)⟩
theorem RdP.ext {A : Option Addr} {xs : List Value} (h : RdP φ w A xs) (hm : Ext w w') : RdP φ w' A xs := h.mod hm fun _ _ h => h
theorem RdP.at {A : Option Addr} {xs : List Value} (h : RdP φ w A xs) {i : Nat} {v : Value} (hi : xs[i]? = some v) :
  ∃ b o, φ b ∧ A = some ⟨b, o, none⟩ ∧ w.cell? ⟨b, o + i, none⟩ = some v := by
 rcases h with rfl | ⟨b, o, hb, e, hr⟩
 ·simp at hi
 ·exact ⟨b, o, hb, e, hr i v hi⟩
theorem RdP.drew {A : Option Addr} {xs : List Value} (h : RdP φ w A xs) (e : w' = w.drew) : RdP φ w' A xs := h.ext ((Mod.refl _ _).drew e)
theorem RdP.take {A : Option Addr} {xs : List Value} (h : RdP φ w A xs) (k : Nat) : RdP φ w A (xs.take k) := by
 rcases h with rfl | ⟨b, o, hb, e, hr⟩
 ·exact .inl (by simp)
 ·refine .inr ⟨b, o, hb, e, fun j v hj => hr j v ?_⟩
  rw [List.getElem?_take] at hj
  split at hj
  ·exact hj
  ·cases hj
theorem RdP.cut {A : Option Addr} {xs : List Value} (h : RdP φ w A xs) {l m size : Nat} (hm : m = l → xs.drop (l * size) = []) : RdP φ w (cutA A l m size) (xs.drop (l * size)) := by
 rcases h with rfl | ⟨b, o, hb, e, hr⟩
 ·exact .inl (by simp)
 ·by_cases hml : m = l
  ·exact .inl (hm hml)
  ·subst e
   refine .inr ⟨b, o + l * size, hb, by simp [cutA, hml, Addr.add_mid], fun j v hj => ?_⟩
   rw [List.getElem?_drop] at hj
   have := hr _ v hj
   rwa [Nat.add_assoc]
/-- Bytes as cells. -/
def By (l : List Int) : List Value := l.map (Value.int .u8)
@[simp] theorem By_length (l : List Int) : (By l).length = l.length := by simp [By]
theorem By_get {l : List Int} {i : Nat} {x : Int} (h : l[i]? = some x) : (By l)[i]? = some (.int .u8 x) := by simp [By, h]
theorem One_By (l : List Int) : One (By l) := by
 intro v hv
 simp only [By, List.mem_map] at hv
 obtain ⟨x, _, rfl⟩ := hv
 rfl
theorem By_append (a b : List Int) : By (a ++ b) = By a ++ By b := by simp [By]
theorem By_take (a : List Int) (k : Nat) : (By a).take k = By (a.take k) := by simp [By]
theorem By_drop (a : List Int) (k : Nat) : (By a).drop k = By (a.drop k) := by simp [By]
/-! ### blocks that are known whole -/
def Blk (w : World) (g : Nat) (t : TypeId) (cs : Array Value) : Prop := w.heap[g]? = some (.cells cs t (0, 0))
theorem Blk.lt {g t : Nat} {cs : Array Value} (h : Blk w g t cs) : g < w.heap.size := by
 rcases Nat.lt_or_ge g w.heap.size with hlt | hge
 ·exact hlt
 ·unfold Blk at h; rw [Array.getElem?_eq_none hge] at h; cases h
theorem Blk.cell {g t : Nat} {cs : Array Value} (h : Blk w g t cs) (i : Nat) : w.cell? ⟨g, i, none⟩ = cs[i]? := cell_of_row w g i cs t (0, 0) h
theorem Blk.frozen {g t : Nat} {cs : Array Value} (h : Blk w g t cs) (i : Nat) : w.frozen? ⟨g, i, none⟩ = false := by
 unfold Blk at h
 simp [World.frozen?, h]
theorem Blk.new {t : TypeId} {cs : Array Value} {g : Nat} (e1 : g = w.heap.size) (e2 : w' = w.alloc (.cells cs t)) : Blk w' g t cs := by
 subst e1; subst e2; exact heap_alloc_new w _
theorem Blk.mod {g t : Nat} {cs : Array Value} (h : Blk w g t cs) (hm : Mod ψ w w') (hn : ¬ ψ g) : Blk w' g t cs := (hm.block g h.lt hn).trans h
theorem Blk.ext {g t : Nat} {cs : Array Value} (h : Blk w g t cs) (hm : Ext w w') : Blk w' g t cs := h.mod hm id
theorem Blk.set {g t i : Nat} {cs : Array Value} {u : Value} (h : Blk w g t cs) (e : w' = w.setCell ⟨g, i, none⟩ u) : Blk w' g t (cs.setIfInBounds i u) := by
 subst e
 unfold Blk at h ⊢
 simp [World.setCell, Array.getElem?_modify, h]
theorem Blk.range {g t : Nat} {cs : Array Value} (h : Blk w g t cs) (o n : Nat) : w.rangeAt g o (cs.toList.drop o |>.take n) := fun j v hj => by
 rw [h.cell]
 rw [List.getElem?_take] at hj
 split at hj
 ·rw [List.getElem?_drop] at hj; simpa using hj
 ·cases hj
theorem Blk.range_all {g t : Nat} {cs : List Value} (h : Blk w g t cs.toArray) : w.rangeAt g 0 cs := fun j v hj => by
 rw [h.cell]; simpa using hj
theorem Blk.there {g t : Nat} {cs : Array Value} (h : Blk w g t cs) {o n : Nat} (hn : o + n ≤ cs.size) : w.there g o n := fun j hj => by
 refine ⟨?_, h.frozen _⟩
 rw [h.cell, Array.getElem?_eq_getElem (by omega)]; rfl
theorem splice_cons {α : Type} (L : List α) (o : Nat) (v : α) (r : List α) (h : o + (r.length + 1) ≤ L.length) :
  L.take o ++ (v :: r) ++ L.drop (o + (r.length + 1)) = (L.set o v).take (o + 1) ++ r ++ (L.set o v).drop (o + 1 + r.length) := by
 apply List.ext_getElem?
 intro i
 simp only [List.getElem?_append, List.getElem?_take, List.getElem?_drop, List.length_append, List.length_take, List.length_cons, List.length_set, List.getElem?_set, List.getElem?_cons]
 have e1 : min o L.length = o := by omega
 have e2 : min (o + 1) L.length = o + 1 := by omega
 simp only [e1, e2]
 by_cases h1 : i < o
 ·have a1 : i < o + (r.length + 1) := by omega
  have a2 : i < o + 1 + r.length := by omega
  have a3 : i < o + 1 := by omega
  have a4 : o ≠ i := by omega
  simp [h1, a1, a2, a3, a4]
 ·by_cases h2 : i = o
  ·subst h2
   have a1 : i < i + (r.length + 1) := by omega
   have a2 : i < i + 1 + r.length := by omega
   have a5 : i < L.length := by omega
   simp [a1, a2, a5]
  ·by_cases h3 : i < o + (r.length + 1)
   ·have a2 : i < o + 1 + r.length := by omega
    have a3 : ¬ i < o + 1 := by omega
    have a6 : i - o ≠ 0 := by omega
    have a7 : i - o - 1 = i - (o + 1) := by omega
    simp [h1, h3, a2, a3, a6, a7]
   ·have a2 : ¬ i < o + 1 + r.length := by omega
    have a3 : ¬ i < o + 1 := by omega
    have a4 : o ≠ o + 1 + r.length + (i - (o + 1 + r.length)) := by omega
    have a5 : o + (r.length + 1) + (i - (o + (r.length + 1))) = o + 1 + r.length + (i - (o + 1 + r.length)) := by omega
    simp [h3, a2, a4, a5]
theorem Blk.sets {g t : Nat} : ∀ (cs : List Value) (o : Nat) (w : World) (L : List Value), Blk w g t L.toArray → o + cs.length ≤ L.length →
  Blk (w.setCells g o cs) g t (L.take o ++ cs ++ L.drop (o + cs.length)).toArray
 | [], o, w, L, h, _ => by simpa [World.setCells] using h
 | v :: r, o, w, L, h, hl => by
  simp only [List.length_cons] at hl
  have h1 : Blk (w.setCell ⟨g, o, none⟩ v) g t (L.set o v).toArray := by simpa using h.set (i := o) (u := v) rfl
  have := Blk.sets r (o + 1) _ (L.set o v) h1 (by simp; omega)
  rw [World.setCells]
  rw [← splice_cons L o v r hl] at this
  simpa using this
/-! ### rows of the call's own, and what is appended to them -/
def Own (w : World) (base e size : Nat) (A : Option Addr) (n c : Nat) (xs : List Value) : Prop := w.ownsRow base e size (.slice A n c) n xs
theorem own_nil (w : World) (base e size : Nat) : Own w base e size none 0 0 [] := World.ownsRow_nil w base e size
theorem Own.rd {base e size n c : Nat} {A : Option Addr} {xs : List Value} (h : Own w base e size A n c xs) : RdP (fun k => base ≤ k ∧ k < w.heap.size) w A xs := by
 rcases h.2 with ⟨e1, e2⟩ | ⟨g, cap, cur, e1, hb, hg, _, _, _, htake⟩
 ·subst e2
  exact .inl (List.eq_nil_of_length_eq_zero (by simpa using h.1))
 ·injection e1 with eA _ ec
  subst eA
  exact .inr ⟨g, 0, ⟨hb, (Array.getElem?_eq_some_iff.1 hg).1⟩, rfl, fun j v hj => by
   have := h.cells (g := g) rfl j v hj
   rwa [Addr.add_mid] at this⟩
theorem Own.len {base e size n c : Nat} {A : Option Addr} {xs : List Value} (h : Own w base e size A n c xs) : xs.length = n * size := h.1
theorem Own.base {base e size n c : Nat} {A : Option Addr} {xs : List Value} (h : Own w base e size A n c xs) : ∀ b o, A = some ⟨b, o, none⟩ → base ≤ b ∧ b < w.heap.size := fun b o he =>
 h.lt b (by simp [Value.ownBlock, he])
theorem Own.ext {base e size n c : Nat} {A : Option Addr} {xs : List Value} (h : Own w base e size A n c xs) (hm : Mod ψ w w') (hn : ∀ b o, A = some ⟨b, o, none⟩ → ¬ ψ b) : Own w' base e size A n c xs := by
 refine ⟨h.1, ?_⟩
 rcases h.2 with hh | ⟨g, cap, cur, e1, hb, hg, rest⟩
 ·exact .inl hh
 ·refine .inr ⟨g, cap, cur, e1, hb, ?_, rest⟩
  injection e1 with eA _ ec
  rw [hm.block g (Array.getElem?_eq_some_iff.1 hg).1 (hn g 0 eA)]
  exact hg
theorem Own.room {base e size n c : Nat} {A : Option Addr} {xs : List Value} (h : Own w base e size A n c xs) {m : Nat} (hm : n + m ≤ c) : Room w A (n * size) (m * size) := by
 rcases h.2 with ⟨e1, e2⟩ | ⟨g, cap, cur, e1, hb, hg, hnc, hcm, hs, _⟩
 ·injection e1 with e1 e3 e4
  left
  have : m = 0 := by omega
  subst this; simp
 ·injection e1 with eA _ ec
  subst ec
  refine .inr ⟨g, 0, eA, ?_⟩
  have hB : Blk w g e cur := hg
  refine hB.there ?_
  rw [hs, Nat.zero_add, ← Nat.add_mul]
  exact Nat.mul_le_mul_right _ hm
theorem size_zc (z : Array Value) (n : Nat) : (Builtin.zeroCells z n).size = n * z.size := by simp [Builtin.zeroCells]
theorem Own.app {base e size n c m c' : Nat} {zc : Array Value} {A A' : Option Addr} {xs news : List Value} (h : Own w base e size A n c xs) (hz : zc.size = size) (hl : news.length = m * size)
  (hb : base ≤ w.heap.size) (ha : Appended w e size zc A n c m xs news A' c' w') :
  Own w' base e size A' (n + m) c' (xs ++ news) ∧ Mod (fun k => ∃ o, A = some ⟨k, o, none⟩) w w' ∧ (∀ b o, A' = some ⟨b, o, none⟩ → A = some ⟨b, o, none⟩ ∨ w.heap.size ≤ b) := by
 rcases ha with ⟨h1, rfl, rfl, rfl⟩ | ⟨h1, h2, h3, rfl, rfl⟩
 ·rcases h.2 with ⟨e1, e2⟩ | ⟨g, cap, cur, e1, hbg, hg, hnc, hcm, hs, htake⟩
  ·injection e1 with e1 e3 e4
   subst e1; subst e2; subst e4
   have hm : m = 0 := by omega
   subst hm
   have hn : news = [] := List.eq_nil_of_length_eq_zero (by simpa using hl)
   subst hn
   refine ⟨by simpa [puts] using h, Mod.refl _ _, fun b o he => by cases he⟩
  ·injection e1 with eA _ ec
   subst eA; subst ec
   have hB : Blk w g e cur.toList.toArray := hg
   have hle : n * size + news.length ≤ cur.toList.length := by
    rw [hl, Array.length_toList, hs, ← Nat.add_mul]; exact Nat.mul_le_mul_right _ h1
   have hS := Blk.sets (t := e) news (n * size) w cur.toList hB hle
   have hw : puts w (some ⟨g, 0, none⟩) (n * size) news = w.setCells g (n * size) news := by simp [puts]
   rw [hw]
   refine ⟨⟨by rw [List.length_append, h.1, hl, Nat.add_mul], .inr ⟨g, c', _, rfl, hbg, hS, h1, hcm, ?_, ?_⟩⟩, (Mod.refl _ _).sets (.inr ⟨0, rfl⟩) rfl, fun b o he => .inl he⟩
   ·simp only [List.size_toArray, List.length_append, List.length_take, List.length_drop]
    have e3 : cur.toList.length = c' * size := by rw [Array.length_toList, hs]
    rw [e3] at hle ⊢
    omega
   ·have hx : cur.toList.take (n * size) = xs := htake
    simp only [List.append_assoc]
    rw [hx, ← List.append_assoc]
    have : (n + m) * size = (xs ++ news).length := by rw [List.length_append, h.1, hl, Nat.add_mul]
    rw [this]
    exact List.take_left
 ·refine ⟨⟨by rw [List.length_append, h.1, hl, Nat.add_mul], .inr ⟨w.heap.size, c', _, rfl, hb, heap_alloc_new w.drew _, h2, h3, ?_, ?_⟩⟩, ((Mod.refl _ _).drew rfl).alloc rfl, fun b o he => .inr (by injection he with he; injection he with he; omega)⟩
  ·rw [Array.size_append, size_zc, hz, List.size_toArray, List.length_append, h.1, hl, ← Nat.add_mul, ← Nat.add_mul]
   congr 1; omega
  ·rw [Array.toList_append, List.toList_toArray]
   have : (n + m) * size = (xs ++ news).length := by rw [List.length_append, h.1, hl, Nat.add_mul]
   rw [this]
   exact List.take_left
theorem Own.new {e size n : Nat} {cs : List Value} {g : Nat} (hs : cs.length = n * size) (hn : n ≤ maxLen) {base : Nat} (hb : base ≤ g) (hB : Blk w g e cs.toArray) : Own w base e size (some ⟨g, 0, none⟩) n n cs :=
 ⟨hs, .inr ⟨g, n, cs.toArray, rfl, hb, hB, Nat.le_refl _, hn, by simpa using hs, by rw [← hs]; simp⟩⟩
/-! ### numbers -/
theorem wrap_i64 {x : Int} (h0 : -9223372036854775808 ≤ x) (h1 : x < 9223372036854775808) : IntKind.i64.wrap x = x := by rw [IntKind.wrap_i64]; omega
theorem wrap_u8 {x : Int} (h0 : 0 ≤ x) (h1 : x < 256) : IntKind.u8.wrap x = x := by
 simp only [IntKind.wrap, IntKind.bits, IntKind.signed, Bool.false_and, Bool.false_eq_true, if_false]; omega
theorem wrap_u32 {x : Int} (h0 : 0 ≤ x) (h1 : x < 4294967296) : IntKind.u32.wrap x = x := by
 simp only [IntKind.wrap, IntKind.bits, IntKind.signed, Bool.false_and, Bool.false_eq_true, if_false]; omega
theorem madeCells_eq (z : Value) (n : Nat) : (madeCells #[z] n) = (List.replicate n z).toArray := by
 apply Array.toList_inj.1
 rw [toList_madeCells_one]
end
end Go.Proofs.YtpkfdhlkknanmaaGreat
