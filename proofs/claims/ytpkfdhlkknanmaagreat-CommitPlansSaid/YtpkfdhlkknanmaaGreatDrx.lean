/-
 More steps of the walk: aggregates built of parts that are variables; maps whose keys are numbers; regions in which several operations may come up: blocks that are made in any order, beside calls that come in one order.
-/
import Derived.Test.YtpkfdhlkknanmaaGreatMem
import Derived.Test.YtpkfdhlkknanmaaGreatOpx
import Derived.Maps.OwnSet
import Derived.Maps.Views
import Derived.Lib.SlKeysI
set_option linter.all false
namespace Go.Proofs.YtpkfdhlkknanmaaGreat
open Go Go.RowKit Go.Maps
/-- A list of a known length, cell by cell. -/
theorem exL {l : List Value} {n : Nat} (h : l.length = n) : ∃ f : Nat → Value, l = (List.range n).map f := by
 refine ⟨fun i => l.getD i undef, ?_⟩
 subst h
 apply List.ext_getElem?
 intro i
 simp only [List.getElem?_map]
 by_cases hi : i < l.length
 ·simp [hi]
 ·simp [hi]
/-! ### several operations may come up -/
section
variable {P : Program} {ops : Array Oper} {Q : Exit → Act → World → Prop} {S : World → Prop} {T : List Nat}
theorem wd_any {fuel : Nat} {listed : Array Bool} {a : Act} {w : World} {R : List Nat} (hr : Region.ready .any ops listed = R) (hf : (decide (1 ≤ fuel)) = true) (hne : R ≠ [])
  (h : ∀ i ∈ R, ∃ o, ops[i]? = some o ∧ OpTo P ops o (fun a' w' => (T.contains i = false → S w → S w') ∧ WD P ops Q S T (fuel - 1) (listed.setIfInBounds i true) a' w') Q a w) : WD P ops Q S T fuel listed a w := by
 obtain ⟨f, rfl⟩ : ∃ f, fuel = f + 1 := ⟨fuel - 1, by have := of_decide_eq_true hf; omega⟩
 refine ⟨⟨fun h0 => absurd (hr.symm.trans h0) hne, fun j hj => ?_⟩⟩
 rw [hr] at hj
 obtain ⟨o, ho, h1⟩ := h j hj
 have h' : wpOp P ops Q j (fun a' w' => (T.contains j = false → S w → S w') ∧ WD P ops Q S T (f + 1 - 1) (listed.setIfInBounds j true) a' w') a w := by
  unfold wpOp
  rw [ho]
  exact h1.out
 exact wpOp_mono (fun a' w' h => ⟨h.1, h.2.out⟩) h'
theorem wd_two (i j : Nat) {o1 o2 : Oper} {fuel : Nat} {listed : Array Bool} {a : Act} {w : World} (hi : ops[i]? = some o1) (hj : ops[j]? = some o2) (hr : Region.ready .any ops listed = [i, j]) (hf : (decide (1 ≤ fuel)) = true)
  (h1 : OpTo P ops o1 (fun a' w' => (T.contains i = false → S w → S w') ∧ WD P ops Q S T (fuel - 1) (listed.setIfInBounds i true) a' w') Q a w)
  (h2 : OpTo P ops o2 (fun a' w' => (T.contains j = false → S w → S w') ∧ WD P ops Q S T (fuel - 1) (listed.setIfInBounds j true) a' w') Q a w) : WD P ops Q S T fuel listed a w :=
 wd_any hr hf (by simp) fun n hn => by
  simp only [List.mem_cons, List.not_mem_nil, or_false] at hn
  rcases hn with rfl | rfl
  ·exact ⟨_, hi, h1⟩
  ·exact ⟨_, hj, h2⟩
-- short
theorem qbq (i : Nat) (j : Nat) {o1 o2 : Oper} {fuel : Nat} {listed : Array Bool} {a : Act} {w : World} (hi : ops[i]? = some o1) (hj : ops[j]? = some o2) (h1 : OpTo P ops o1 (fun a' w' => (T.contains i = false → S w → S w') ∧ WD P ops Q S T (fuel - 1) (listed.setIfInBounds i true) a' w') Q a w) (h2 : OpTo P ops o2 (fun a' w' => (T.contains j = false → S w → S w') ∧ WD P ops Q S T (fuel - 1) (listed.setIfInBounds j true) a' w') Q a w) (hr : Region.ready .any ops listed = [i, j] := by kernel_rfl) (hf : (decide (1 ≤ fuel)) = true := by kernel_rfl) : WD P ops Q S T fuel listed a w := wd_two i j hi hj hr hf h1 h2
-- /short
theorem wd_three (i j k : Nat) {o1 o2 o3 : Oper} {fuel : Nat} {listed : Array Bool} {a : Act} {w : World} (hi : ops[i]? = some o1) (hj : ops[j]? = some o2) (hk : ops[k]? = some o3) (hr : Region.ready .any ops listed = [i, j, k]) (hf : (decide (1 ≤ fuel)) = true)
  (h1 : OpTo P ops o1 (fun a' w' => (T.contains i = false → S w → S w') ∧ WD P ops Q S T (fuel - 1) (listed.setIfInBounds i true) a' w') Q a w)
  (h2 : OpTo P ops o2 (fun a' w' => (T.contains j = false → S w → S w') ∧ WD P ops Q S T (fuel - 1) (listed.setIfInBounds j true) a' w') Q a w)
  (h3 : OpTo P ops o3 (fun a' w' => (T.contains k = false → S w → S w') ∧ WD P ops Q S T (fuel - 1) (listed.setIfInBounds k true) a' w') Q a w) : WD P ops Q S T fuel listed a w :=
 wd_any hr hf (by simp) fun n hn => by
  simp only [List.mem_cons, List.not_mem_nil, or_false] at hn
  rcases hn with rfl | rfl | rfl
  ·exact ⟨_, hi, h1⟩
  ·exact ⟨_, hj, h2⟩
  ·exact ⟨_, hk, h3⟩
-- short
theorem qbp (i : Nat) (j : Nat) (k : Nat) {o1 o2 o3 : Oper} {fuel : Nat} {listed : Array Bool} {a : Act} {w : World} (hi : ops[i]? = some o1) (hj : ops[j]? = some o2) (hk : ops[k]? = some o3) (h1 : OpTo P ops o1 (fun a' w' => (T.contains i = false → S w → S w') ∧ WD P ops Q S T (fuel - 1) (listed.setIfInBounds i true) a' w') Q a w) (h2 : OpTo P ops o2 (fun a' w' => (T.contains j = false → S w → S w') ∧ WD P ops Q S T (fuel - 1) (listed.setIfInBounds j true) a' w') Q a w) (h3 : OpTo P ops o3 (fun a' w' => (T.contains k = false → S w → S w') ∧ WD P ops Q S T (fuel - 1) (listed.setIfInBounds k true) a' w') Q a w) (hr : Region.ready .any ops listed = [i, j, k] := by kernel_rfl) (hf : (decide (1 ≤ fuel)) = true := by kernel_rfl) : WD P ops Q S T fuel listed a w := wd_three i j k hi hj hk hr hf h1 h2 h3
-- /short
end
/-- Some blocks are as they were. -/
def KeepB (B : List Nat) (w w' : World) : Prop := ∀ k ∈ B, w'.heap[k]? = w.heap[k]?
theorem keepB_drew {B : List Nat} {w w1 : World} (h : w1 = w.drew) : KeepB B w w1 := by subst h; exact fun _ _ => rfl
theorem keepB_cell {B : List Nat} {w w' : World} (h : KeepB B w w') {ad : Addr} {v : Value} (hb : ad.block ∈ B) (hc : w.cell? ad = some v) : w'.cell? ad = some v :=
 (World.cell?_of_block (h _ hb)).trans hc
theorem Mod.keepB {ψ : Nat → Prop} {B : List Nat} {w w' : World} (h : Mod ψ w w') (hb : ∀ k ∈ B, k < w.heap.size ∧ ¬ ψ k) : KeepB B w w' := fun k hk => h.block k (hb k hk).1 (hb k hk).2
/-- Blocks that were made since the heap had 'n0' blocks, none of them while a call of 'gaps' ran. -/
def Fl (n0 : Nat) (gaps : List (Nat × Nat)) (w : World) (l : List (Nat × TypeId × Array Value)) : Prop :=
 n0 ≤ w.heap.size ∧ (∀ g ∈ gaps, g.2 ≤ w.heap.size) ∧ ∀ x ∈ l, Blk w x.1 x.2.1 x.2.2 ∧ n0 ≤ x.1 ∧ ∀ g ∈ gaps, x.1 < g.1 ∨ g.2 ≤ x.1
theorem Fl.nil (w : World) : Fl w.heap.size [] w [] := ⟨Nat.le_refl _, by simp, by simp⟩
theorem Fl.drew {n0 : Nat} {gs : List (Nat × Nat)} {w w' : World} {l : List (Nat × TypeId × Array Value)} (h : Fl n0 gs w l) (e : w' = w.drew) : Fl n0 gs w' l := by subst e; exact h
theorem Fl.alloc {n0 b : Nat} {gs : List (Nat × Nat)} {w w' : World} {l : List (Nat × TypeId × Array Value)} {cs : Array Value} {t : TypeId} (h : Fl n0 gs w l) (e1 : b = w.heap.size) (e2 : w' = w.alloc (.cells cs t)) : Fl n0 gs w' ((b, t, cs) :: l) := by
 have hm : Ext w w' := (Mod.refl _ _).alloc e2
 have hs := hm.size
 refine ⟨by have := h.1; omega, fun g hg => by have := h.2.1 g hg; omega, fun x hx => ?_⟩
 rcases List.mem_cons.1 hx with rfl | hx
 ·exact ⟨Blk.new e1 e2, by have := h.1; omega, fun g hg => .inr (by have := h.2.1 g hg; omega)⟩
 ·obtain ⟨h1, h2⟩ := h.2.2 x hx
  exact ⟨h1.ext hm, h2⟩
theorem Fl.sub {n0 : Nat} {gs : List (Nat × Nat)} {w : World} {l l' : List (Nat × TypeId × Array Value)} (h : Fl n0 gs w l) (hs : ∀ x ∈ l', x ∈ l) : Fl n0 gs w l' := ⟨h.1, h.2.1, fun x hx => h.2.2 x (hs x hx)⟩
/-- The call leaves what was made before it. -/
def KeepFl (n0 : Nat) (w w' : World) : Prop := w.heap.size ≤ w'.heap.size ∧ ∀ k, n0 ≤ k → k < w.heap.size → w'.heap[k]? = w.heap[k]?
theorem Mod.keepFl {ψ : Nat → Prop} {n0 : Nat} {w w' : World} (h : Mod ψ w w') (hn : ∀ k, n0 ≤ k → k < w.heap.size → ¬ ψ k) : KeepFl n0 w w' := ⟨h.size, fun k h1 h2 => h.block k h2 (hn k h1 h2)⟩
theorem Fl.call {n0 : Nat} {gs : List (Nat × Nat)} {w w' : World} {l : List (Nat × TypeId × Array Value)} (h : Fl n0 gs w l) (hk : KeepFl n0 w w') : Fl n0 ((w.heap.size, w'.heap.size) :: gs) w' l := by
 refine ⟨by have := h.1; have := hk.1; omega, fun g hg => ?_, fun x hx => ?_⟩
 ·rcases List.mem_cons.1 hg with rfl | hg
  ·exact Nat.le_refl _
  ·have := h.2.1 g hg; have := hk.1; omega
 ·obtain ⟨h1, h2, h3⟩ := h.2.2 x hx
  refine ⟨(hk.2 x.1 h2 h1.lt).trans h1, h2, fun g hg => ?_⟩
  rcases List.mem_cons.1 hg with rfl | hg
  ·exact .inl h1.lt
  ·exact h3 g hg
theorem Keep.of_ext {w0 w w' : World} (h : Keep w0 w) (hs : w0.heap.size ≤ w.heap.size) (hm : Ext w w') : Keep w0 w' := fun k hk => (hm.block k (by omega) id).trans (h k hk)
/-! ### maps whose keys are numbers -/
/-- What a value reads as: itself. -/
def RV (v : Value) : Option (DataW Value × List MemPlace) := some (.held v, [])
/-- Block 'b' is a map of at most 'n' entries that has 'f'. -/
def Mi (P : Program) (k : TypeId) (w : World) (b n : Nat) (f : Int → Option Value) : Prop :=
 ∃ D : DataW Value, w.ownsMap P k RV b n D ∧ (∀ x, has D (.int .i64 x) = (f x).isSome) ∧ ∀ x d, D.atKey (.int .i64 x) d = match f x with | some v => .held v | none => d
def fSet (f : Int → Option Value) (x : Int) (v : Value) : Int → Option Value := fun y => if y = x then some v else f y
def InI (x : Int) : Prop := -9223372036854775808 ≤ x ∧ x < 9223372036854775808
theorem InI.wf {x : Int} (h : InI x) : (Lit.int .i64 x).wf = true := by
 obtain ⟨h1, h2⟩ := h
 show (decide (IntKind.i64.min ≤ x) && decide (x ≤ IntKind.i64.max)) = true
 have e1 : IntKind.i64.min = -9223372036854775808 := rfl
 have e2 : IntKind.i64.max = 9223372036854775807 := rfl
 rw [e1, e2]
 simp only [Bool.and_eq_true, decide_eq_true_eq]
 omega
section
variable {P : Program} {k : TypeId} {w w' : World} {b n : Nat} {f : Int → Option Value}
theorem Mi.made (e1 : b = w.heap.size) (e2 : w' = w.alloc (.map #[] 0)) : Mi P k w' b 0 (fun _ => none) := by
 subst e1; subst e2
 exact ⟨.map [], World.ownsMap_made w P k RV, fun x => rfl, fun x d => rfl⟩
theorem Mi.lt (h : Mi P k w b n f) : b < w.heap.size := let ⟨_, h, _⟩ := h; h.lt
theorem Mi.same (h : Mi P k w b n f) (hb : w'.heap[b]? = w.heap[b]?) : Mi P k w' b n f := by
 obtain ⟨D, ⟨es, clock, h1, h2⟩, h3⟩ := h
 exact ⟨D, ⟨es, clock, hb.trans h1, h2⟩, h3⟩
theorem Mi.mod {ψ : Nat → Prop} (h : Mi P k w b n f) (hm : Mod ψ w w') (hn : ¬ ψ b) : Mi P k w' b n f := h.same (hm.block b h.lt hn)
theorem Mi.ext (h : Mi P k w b n f) (hm : Ext w w') : Mi P k w' b n f := h.mod hm id
theorem Mi.look {t e : TypeId} {z : Value} {x : Int} (h : Mi P k w b n f) (hk : P.underlying k = some (.int .i64)) (ht : P.underlying t = some (.map k e)) (hz : (zeroValue e).run P w = .ok z w) (hx : InI x) :
  (Instr.lookup t (.map (some b)) (.int .i64 x) false).run P w = .ok ((f x).getD z) w := by
 obtain ⟨D, h1, _, h3⟩ := h
 obtain ⟨v, ps, hr, hv⟩ := h1.lookup (int_keyed hk) ht hz (zd := .held z) (zp := []) rfl (keyOf_int_mk hk hx.wf)
 rw [h3] at hv
 simp only [RV, Option.some.injEq, Prod.mk.injEq] at hv
 rw [hr]
 cases hf : f x with
 | none => rw [hf] at hv; simp at hv; rw [hv.1]; rfl
 | some u => rw [hf] at hv; simp at hv; rw [hv.1]; rfl
theorem Mi.upd {t e : TypeId} {x : Int} {v : Value} (h : Mi P k w b n f) (hk : P.underlying k = some (.int .i64)) (ht : P.underlying t = some (.map k e)) (hn : n < maxLen) (hx : InI x) :
  ∃ w', (Instr.mapUpdate t (.map (some b)) (.int .i64 x) v).run P w = .ok () w' ∧ Mi P k w' b (n + 1) (fSet f x v) ∧ Mod (fun j => j = b) w w' := by
 obtain ⟨D, h1, h2, h3⟩ := h
 obtain ⟨w', hr, ho, hg⟩ := h1.update (int_keyed hk) ht hn (d := .held v) (ps := []) (keyOf_int_mk hk hx.wf) rfl
 have hm : IsMap D := h1.isMap
 have hl : WideAt.IsKeyLit (.int .i64 x) := trivial
 refine ⟨w', hr, ⟨_, ho, fun y => ?_, fun y d => ?_⟩, ⟨hg.os, hg.tape, hg.output, hg.size, fun j hj hne => hg.block j hj (by simpa using hne)⟩⟩
 ·by_cases hy : y = x
  ·subst hy; rw [has_put_same hm hl]; simp [fSet]
  ·rw [has_put_other (by simpa using hy), h2]; simp [fSet, hy]
 ·by_cases hy : y = x
  ·subst hy; rw [atKey_put_same hm hl]; simp [fSet]
  ·rw [atKey_put_other (by simpa using hy), h3]; simp [fSet, hy]
end
section
variable {P : Program} {ops : Array Oper} {K : Act → World → Prop} {o : Oper} {a : Act} {w : World} {Q : Exit → Act → World → Prop}
theorem op_makeMap {t : TypeId} (hop : o.op = .makeMap t none) (hg : Region.wanted o (yielded ops a.tmps) = true)
  (h : ∀ b w', b = w.heap.size → w' = w.alloc (.map #[] 0) → K (a.put o.dst (.map (some b))) w') : OpTo P ops o K Q a w :=
 op_sem (s := Instr.makeMap t none) hg (by unfold execOp; simp only [hop]; rfl) (by simp [Instr.makeMap, newObj]; rfl) (h _ _ rfl rfl)
-- short
theorem qat {t : TypeId} (hop : o.op = .makeMap t none) (h : ∀ b w', b = w.heap.size → w' = w.alloc (.map #[] 0) → K (a.put o.dst (.map (some b))) w') (hg : Region.wanted o (yielded ops a.tmps) = true := by kernel_rfl) : OpTo P ops o K Q a w := op_makeMap hop hg h
-- /short
theorem op_lookI1 {t k e : TypeId} {x y : Operand} {z v : Value} {b n : Nat} {j : Int} {f : Int → Option Value} (hop : o.op = .lookup t x y false) (hg : Region.wanted o (yielded ops a.tmps) = true)
  (hx : a.eval x = .map (some b)) (hy : a.eval y = .int .i64 j) (ht : P.underlying t = some (.map k e)) (hk : P.underlying k = some (.int .i64)) (hz : ∀ w, (zeroValue e).run P w = .ok z w)
  (hm : Mi P k w b n f) (hj : InI j) (hv : (f j).getD z = v) (h : K (a.put o.dst v) w) : OpTo P ops o K Q a w :=
 op_sem (s := Instr.lookup t (.map (some b)) (.int .i64 j) false) hg (by unfold execOp; simp only [hop, hx, hy]; rfl) (by rw [hm.look hk ht (hz w) hj, hv]) h
-- short
theorem qar {t k e : TypeId} {x y : Operand} {z v : Value} {b n : Nat} {j : Int} {f : Int → Option Value} (hop : o.op = .lookup t x y false) (ht : P.underlying t = some (.map k e)) (hk : P.underlying k = some (.int .i64)) (hz : ∀ w, (zeroValue e).run P w = .ok z w) (hm : Mi P k w b n f) (hj : InI j) (hv : (f j).getD z = v) (h : K (a.put o.dst v) w) (hg : Region.wanted o (yielded ops a.tmps) = true := by kernel_rfl) (hx : a.eval x = .map (some b) := by kernel_rfl) (hy : a.eval y = .int .i64 j := by kernel_rfl) : OpTo P ops o K Q a w := op_lookI1 hop hg hx hy ht hk hz hm hj hv h
theorem op_updI {t k e : TypeId} {x y z : Operand} {v : Value} {b n : Nat} {j : Int} {f : Int → Option Value} (hop : o.op = .mapUpdate t x y z) (hg : Region.wanted o (yielded ops a.tmps) = true)
  (hx : a.eval x = .map (some b)) (hy : a.eval y = .int .i64 j) (hz : a.eval z = v) (ht : P.underlying t = some (.map k e)) (hk : P.underlying k = some (.int .i64))
  (hm : Mi P k w b n f) (hj : InI j) (hn : n < maxLen) (h : ∀ w', Mi P k w' b (n + 1) (fSet f j v) → Mod (fun i => i = b) w w' → K (a.put o.dst undef) w') : OpTo P ops o K Q a w := by
 obtain ⟨w', hr, h1, h2⟩ := hm.upd (v := v) hk ht hn hj
 exact op_semu (s := Instr.mapUpdate t (.map (some b)) (.int .i64 j) v) hg (by unfold execOp; simp only [hop, hx, hy, hz]; rfl) hr (h _ h1 h2)
-- short
theorem qbe {t k e : TypeId} {x y z : Operand} {v : Value} {b n : Nat} {j : Int} {f : Int → Option Value} (hop : o.op = .mapUpdate t x y z) (ht : P.underlying t = some (.map k e)) (hk : P.underlying k = some (.int .i64)) (hm : Mi P k w b n f) (hj : InI j) (hn : n < maxLen) (h : ∀ w', Mi P k w' b (n + 1) (fSet f j v) → Mod (fun i => i = b) w w' → K (a.put o.dst undef) w') (hg : Region.wanted o (yielded ops a.tmps) = true := by kernel_rfl) (hx : a.eval x = .map (some b) := by kernel_rfl) (hy : a.eval y = .int .i64 j := by kernel_rfl) (hz : a.eval z = v := by kernel_rfl) : OpTo P ops o K Q a w := op_updI hop hg hx hy hz ht hk hm hj hn h
-- /short
end
end Go.Proofs.YtpkfdhlkknanmaaGreat
