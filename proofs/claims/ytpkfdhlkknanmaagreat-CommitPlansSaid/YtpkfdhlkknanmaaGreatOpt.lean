/-
 More operations for the printed walks: slicing, literals, calls of function values and methods, comparisons.
-/
import Derived.Test.YtpkfdhlkknanmaaGreatDraw
import Derived.Laws.Build
set_option linter.all false
namespace Go.Proofs.YtpkfdhlkknanmaaGreat
open Go Go.RowKit
theorem one_of {l : List Value} (h : l.all (fun v => v.oneCell') = true) : One l := fun v hv => List.all_eq_true.1 h v hv
-- short
theorem qab {l : List Value} (h : l.all (fun v => v.oneCell') = true := by kernel_rfl) : One l := one_of h
-- /short
theorem enc_intro {F : (Nat → Value) → Act} {a : Act} (h : a = F (fun i => a.tmps.getD i undef)) : ∃ u, a = F u := ⟨_, h⟩
-- short
theorem qaa {F : (Nat → Value) → Act} {a : Act} (h : a = F (fun i => a.tmps.getD i undef) := by kernel_rfl) : ∃ u, a = F u := enc_intro h
-- /short
theorem not_flip {b c : Bool} (h : (!b) = c) : b = !c := by subst h; simp
theorem bne_false {a b : Int} (h : (a != b) = false) : a = b := by simpa using h
theorem ne_none_of {α : Type} {p : Option α} (h : p.isNone = false) : p ≠ none := by intro e; subst e; cases h
def bAnd (k : IntKind) (x y : Int) : Int := k.wrap (BitVec.ofInt k.bits x &&& BitVec.ofInt k.bits y).toNat
def bOr (k : IntKind) (x y : Int) : Int := k.wrap (BitVec.ofInt k.bits x ||| BitVec.ofInt k.bits y).toNat
def bXor (k : IntKind) (x y : Int) : Int := k.wrap (BitVec.ofInt k.bits x ^^^ BitVec.ofInt k.bits y).toNat
def iShl (k : IntKind) (x y : Int) : Int := k.wrap (x * 2 ^ (min y.toNat k.bits))
def iShr (k : IntKind) (x y : Int) : Int := x.fdiv (2 ^ (min y.toNat k.bits))
def imin (x y : Int) : Int := if y < x then y else x
def imax (x y : Int) : Int := if y > x then y else x
def cutA (A : Option Addr) (l m size : Nat) : Option Addr := if m = l then A else A.map (·.add (l * size))
/-- A result: a slot's value, or what a cell holds. -/
def ResIs (P : Program) (w : World) (tmps : Array Value) : ResultVar → Value → Prop
 | .tmp t, v => tmps.getD t undef = v
 | .cell p T, v => ∃ b o, tmps.getD p undef = .pointer (some ⟨b, o, none⟩) ∧ (Instr.loadAt T (.pointer (some ⟨b, o, none⟩))).run P w = .ok v w
def ResL (P : Program) (w : World) (tmps : Array Value) : List ResultVar → List Value → Prop
 | [], [] => True
 | r :: rs, v :: vs => ResIs P w tmps r v ∧ ResL P w tmps rs vs
 | _, _ => False
def resF (tmps : Array Value) : ResultVar → Sem Value
 | .tmp t => pure (tmps.getD t undef)
 | .cell a t => do loadVar t (← asAddr (tmps.getD a undef))
theorem results_eq (fn : Func) (tmps : Array Value) : results fn tmps = (do let vs ← fn.results.mapM (resF tmps); pure (if h : vs.size = 1 then vs[0] else .tuple vs)) := by
 unfold results
 congr 1
theorem run_resF {P : Program} {w : World} {tmps : Array Value} {r : ResultVar} {v : Value} (h : ResIs P w tmps r v) : (resF tmps r).run P w = .ok v w := by
 cases r with
 | tmp t => simp only [ResIs] at h; subst h; rfl
 | cell p T =>
  obtain ⟨b, o, hp, hl⟩ := h
  have hl' : (loadVar T ⟨b, o, none⟩).run P w = .ok v w := by simpa [Instr.loadAt, Instr.sureAddr] using hl
  simp only [resF, hp, asAddr, Sem.run_bind, Sem.run_pure, Result.andThen_ok, hl']
theorem run_mapM {P : Program} {w : World} {f : ResultVar → Sem Value} : ∀ {rs : List ResultVar} {vs : List Value}, rs.length = vs.length →
  (∀ (i : Nat) r v, rs[i]? = some r → vs[i]? = some v → (f r).run P w = .ok v w) → (rs.mapM f).run P w = .ok vs w
 | [], [], _, _ => rfl
 | r :: rs, v :: vs, hl, h => by
  have ih := run_mapM (rs := rs) (vs := vs) (by simpa using hl) (fun i r v hr hv => h (i + 1) r v (by simpa using hr) (by simpa using hv))
  have h1 := h 0 r v rfl rfl
  rw [List.mapM_cons]
  simp only [Sem.run_bind, Sem.run_pure, Result.andThen_ok, h1, ih]
theorem resL_spec {P : Program} {w : World} {tmps : Array Value} : ∀ {rs : List ResultVar} {vs : List Value}, ResL P w tmps rs vs →
  rs.length = vs.length ∧ ∀ (i : Nat) r v, rs[i]? = some r → vs[i]? = some v → ResIs P w tmps r v
 | [], [], _ => ⟨rfl, fun i r v h => by simp at h⟩
 | r :: rs, v :: vs, h => by
  obtain ⟨h1, h2⟩ := resL_spec h.2
  refine ⟨by simp [h1], fun i r' v' hr hv => ?_⟩
  cases i with
  | zero => simp at hr hv; subst hr; subst hv; exact h.1
  | succ i => exact h2 i r' v' (by simpa using hr) (by simpa using hv)
theorem run_results {P : Program} {fn : Func} {w : World} {tmps : Array Value} {rs : List ResultVar} {vs : List Value} (hr : fn.results = rs.toArray) (h : ResL P w tmps rs vs) :
  (results fn tmps).run P w = .ok (if h : vs.toArray.size = 1 then vs.toArray[0] else .tuple vs.toArray) w := by
 obtain ⟨h1, h2⟩ := resL_spec h
 have hm := run_mapM (P := P) (w := w) (f := resF tmps) h1 (fun i r v a b => run_resF (h2 i r v a b))
 rw [results_eq, hr, List.mapM_toArray]
 simp only [Sem.run_bind, Sem.run_pure, Result.andThen_ok, Sem.run_map, hm]
theorem res_tmp {P : Program} {w : World} {tmps : Array Value} {t : Tmp} {v : Value} (h : tmps.getD t undef = v) : ResIs P w tmps (.tmp t) v := h
-- short
theorem qbf {P : Program} {w : World} {tmps : Array Value} {t : Tmp} {v : Value} (h : tmps.getD t undef = v := by kernel_rfl) : ResIs P w tmps (.tmp t) v := res_tmp h
-- /short
theorem rp_retR {P : Program} {fn : Func} {a : Act} {w : World} {R : Value → World → Prop} {rs : List ResultVar} {vs : List Value} {v : Value} (hr : fn.results = rs.toArray) (h : ResL P w a.tmps rs vs)
  (hv : (if h : vs.toArray.size = 1 then vs.toArray[0] else .tuple vs.toArray) = v) (hd : a.defers = []) (hR : R v w) : RP P fn R .ret a w :=
 rp_ret (by rw [run_results hr h, hv]) hd hR
-- short
theorem qbi {P : Program} {fn : Func} {a : Act} {w : World} {R : Value → World → Prop} {rs : List ResultVar} {vs : List Value} {v : Value} (hr : fn.results = rs.toArray) (h : ResL P w a.tmps rs vs) (hR : R v w) (hv : (if h : vs.toArray.size = 1 then vs.toArray[0] else .tuple vs.toArray) = v := by kernel_rfl) (hd : a.defers = [] := by kernel_rfl) : RP P fn R .ret a w := rp_retR hr h hv hd hR
/-- Ways that meet again: what holds there is named. -/
theorem wp_seq_join {P : Program} {x y : Code} {a : Act} {w : World} {Q : Exit → Act → World → Prop} {σ : Type} (F : σ → (Nat → Value) → Act) (J : σ → World → Prop)
  (hrest : ∀ s u w, J s w → y.wp P Q (F s u) w)
  (h : x.wp P (Exit.then (fun a' w' => ∃ s, J s w' ∧ ∃ u, a' = F s u) Q) a w) : (Code.seq x y).wp P Q a w := by
 refine wp_seq (wp_mono h ?_)
 intro e a' w' he
 cases e with
 | normal =>
  obtain ⟨s, hJ, u, rfl⟩ := he
  exact hrest s u w' hJ
 | _ => exact he
/-- A function value, and which function it is. -/
def FnIs (P : Program) (v : Value) (f : FuncId) (cap : Array Value) : Prop :=
 v = .func (.func f) #[] cap ∧ ∀ args w, (callFunc f args).run P w = .ok (.enter f args) w
/-- An equality, by the model's own run. -/
def EqRun (P : Program) (w : World) (t : TypeId) (x y : Value) (b : Bool) : Prop :=
 (∀ X Y, (eqGuard .eql t X Y x y).run P w = .ok () w ∧ (eqGuard .neq t X Y x y).run P w = .ok () w) ∧
 (binOp .eql t x y).run P w = .ok (.bool b) w ∧ (binOp .neq t x y).run P w = .ok (.bool (!b)) w
section
variable {P : Program} {ops : Array Oper} {K : Act → World → Prop} {o : Oper} {a : Act} {w : World} {Q : Exit → Act → World → Prop}
theorem op_pure {v : Value} (hg : Region.wanted o (yielded ops a.tmps) = true) (h : pureVal P (execOp a.eval o) = some (.value v)) (hK : K (a.put o.dst v) w) : OpTo P ops o K Q a w :=
 op_val hg (run_pureVal h w) hK
-- short
theorem qaw {v : Value} (h : pureVal P (execOp a.eval o) = some (.value v)) (hK : K (a.put o.dst v) w) (hg : Region.wanted o (yielded ops a.tmps) = true := by kernel_rfl) : OpTo P ops o K Q a w := op_pure hg h hK
-- /short
theorem op_callv {f : FuncId} {args cap : Array Value} {x : Operand} {xs : Array Operand} {ts : Array TypeId} (hop : o.op = .call { callee := .value x, args := xs, argTypes := ts })
  (hg : Region.wanted o (yielded ops a.tmps) = true) (hx : a.eval x = .func (.func f) #[] cap) (ha : xs.map a.eval ++ cap = args) (hf : ∀ args w, (callFunc f args).run P w = .ok (.enter f args) w)
  (h : Ret P f args w fun v w' => K (a.put o.dst v) w') : OpTo P ops o K Q a w := by
 refine op_call (f := f) (args := args) (w' := w) hg ?_ h
 unfold execOp
 simp only [hop]
 simp [resolve, hx, Deferred.ofValue, invoke, ha, hf]
-- short
theorem qak {f : FuncId} {args cap : Array Value} {x : Operand} {xs : Array Operand} {ts : Array TypeId} (hop : o.op = .call { callee := .value x, args := xs, argTypes := ts }) (hf : ∀ args w, (callFunc f args).run P w = .ok (.enter f args) w) (h : Ret P f args w fun v w' => K (a.put o.dst v) w') (hg : Region.wanted o (yielded ops a.tmps) = true := by kernel_rfl) (hx : a.eval x = .func (.func f) #[] cap := by kernel_rfl) (ha : xs.map a.eval ++ cap = args := by kernel_rfl) : OpTo P ops o K Q a w := op_callv hop hg hx ha hf h
-- /short
theorem op_callo {f : FuncId} {v : Value} {args cap : Array Value} {x : Operand} {xs : Array Operand} {ts : Array TypeId} (hop : o.op = .call { callee := .value x, args := xs, argTypes := ts })
  (hg : Region.wanted o (yielded ops a.tmps) = true) (hx : a.eval x = v) (ha : xs.map a.eval = args) (hv : FnIs P v f cap)
  (h : Ret P f (args ++ cap) w fun v w' => K (a.put o.dst v) w') : OpTo P ops o K Q a w := by
 obtain ⟨rfl, hf⟩ := hv
 exact op_callv hop hg hx (by rw [ha]) hf h
-- short
theorem qaj {f : FuncId} {v : Value} {args cap : Array Value} {x : Operand} {xs : Array Operand} {ts : Array TypeId} (hop : o.op = .call { callee := .value x, args := xs, argTypes := ts }) (hv : FnIs P v f cap) (h : Ret P f (args ++ cap) w fun v w' => K (a.put o.dst v) w') (hg : Region.wanted o (yielded ops a.tmps) = true := by kernel_rfl) (hx : a.eval x = v := by kernel_rfl) (ha : xs.map a.eval = args := by kernel_rfl) : OpTo P ops o K Q a w := op_callo hop hg hx ha hv h
theorem run_buildSlice {t e : TypeId} {n size : Nat} {z : Value} {parts : Array (Nat × Value)} {cs : List Value} (ht : P.underlying t = some (.slice e)) (hs : ∀ w, (sizeOf e).run P w = .ok size w)
  (hz : ∀ w, (zeroValue e).run P w = .ok z w)
  (hf : Instr.fill (fun i => some (i * size, size)) ((Array.range (n * size)).map (z.cells[· % z.cells.size]!)) parts.toList = some cs.toArray) (h0 : n * size ≠ 0) (h1 : n * size ≤ 16777216) :
  (Instr.buildSlice t n parts).run P w = .ok (.slice (some ⟨w.heap.size, 0, none⟩) n n) (w.alloc (.cells cs.toArray e)) := by
 have h2 : ¬ (16777216 < n * size) := by omega
 have h3 : n ≠ 0 := fun e => h0 (by rw [e, Nat.zero_mul])
 have h4 : size ≠ 0 := fun e => h0 (by rw [e, Nat.mul_zero])
 simp [Instr.buildSlice, run_underlying ht, hs, hz, h2, h3, h4, newRow]
 rw [hf, if_neg h0]
 simp
theorem op_bslice {t e : TypeId} {n size : Nat} {z : Value} {parts : Array (Nat × Operand)} {cs : List Value} (hop : o.op = .buildSlice t n parts) (hg : Region.wanted o (yielded ops a.tmps) = true)
  (ht : P.underlying t = some (.slice e)) (hs : ∀ w, (sizeOf e).run P w = .ok size w) (hz : ∀ w, (zeroValue e).run P w = .ok z w)
  (hf : Instr.fill (fun i => some (i * size, size)) ((Array.range (n * size)).map (z.cells[· % z.cells.size]!)) (parts.map fun (i, x) => (i, a.eval x)).toList = some cs.toArray) (h0 : n * size ≠ 0) (h1 : n * size ≤ 16777216)
  (h : ∀ g w', g = w.heap.size → w' = w.alloc (.cells cs.toArray e) → K (a.put o.dst (.slice (some ⟨g, 0, none⟩) n n)) w') : OpTo P ops o K Q a w :=
 op_sem (s := Instr.buildSlice t n (parts.map fun (i, x) => (i, a.eval x))) hg (by unfold execOp; simp only [hop]; rfl) (run_buildSlice ht hs hz hf h0 h1) (h _ _ rfl rfl)
-- short
theorem qag {t e : TypeId} {n size : Nat} {z : Value} {parts : Array (Nat × Operand)} {cs : List Value} (hop : o.op = .buildSlice t n parts) (ht : P.underlying t = some (.slice e)) (hs : ∀ w, (sizeOf e).run P w = .ok size w) (hz : ∀ w, (zeroValue e).run P w = .ok z w) (hf : Instr.fill (fun i => some (i * size, size)) ((Array.range (n * size)).map (z.cells[· % z.cells.size]!)) (parts.map fun (i, x) => (i, a.eval x)).toList = some cs.toArray) (h0 : n * size ≠ 0) (h1 : n * size ≤ 16777216) (h : ∀ g w', g = w.heap.size → w' = w.alloc (.cells cs.toArray e) → K (a.put o.dst (.slice (some ⟨g, 0, none⟩) n n)) w') (hg : Region.wanted o (yielded ops a.tmps) = true := by kernel_rfl) : OpTo P ops o K Q a w := op_bslice hop hg ht hs hz hf h0 h1 h
-- /short
theorem op_bslice0 {t e : TypeId} {size : Nat} (hop : o.op = .buildSlice t 0 #[]) (hg : Region.wanted o (yielded ops a.tmps) = true)
  (ht : P.underlying t = some (.slice e)) (hs : ∀ w, (sizeOf e).run P w = .ok size w)
  (h : ∀ g w', g = w.heap.size → w' = w.alloc (.cells #[] e) → K (a.put o.dst (.slice (some ⟨g, 0, none⟩) 0 0)) w') : OpTo P ops o K Q a w :=
 op_sem (s := Instr.buildSlice t 0 #[]) hg (by unfold execOp; simp only [hop, List.map_toArray, List.map_nil]; rfl) (by
  have : (Array.range 0).map (fun _ => (default : Value)) = #[] := by simp [Array.range_zero']
  simp [Instr.buildSlice, run_underlying ht, hs, newRow, Instr.fill, this]) (h _ _ rfl rfl)
-- short
theorem qah {t e : TypeId} {size : Nat} (hop : o.op = .buildSlice t 0 #[]) (ht : P.underlying t = some (.slice e)) (hs : ∀ w, (sizeOf e).run P w = .ok size w) (h : ∀ g w', g = w.heap.size → w' = w.alloc (.cells #[] e) → K (a.put o.dst (.slice (some ⟨g, 0, none⟩) 0 0)) w') (hg : Region.wanted o (yielded ops a.tmps) = true := by kernel_rfl) : OpTo P ops o K Q a w := op_bslice0 hop hg ht hs h
-- /short
/-! ### slicing -/
def Lim (a : Act) (x : Option Operand) (d j : Int) : Prop := (x = none ∧ j = d) ∨ ∃ y k, x = some y ∧ a.eval y = .int k j
theorem run_sliceBounds_gen {isS : Bool} {len cap : Nat} {low high max : Option Operand} {l h m : Int}
  (hl : Lim a low 0 l) (hh : Lim a high len h) (hm : Lim a max cap m) (hx : high = none → max = none)
  (h0 : 0 ≤ l) (h1 : l ≤ h) (h2 : h ≤ m) (h3 : m ≤ cap) :
  (Instr.sliceBounds isS len cap (low.map a.eval) (high.map a.eval) (max.map a.eval)).run P w = .ok (l.toNat, h.toNat, m.toNat) w := by
 have e0 : 0 ≤ h := by omega
 have e1 : 0 ≤ m := by omega
 have b1 : l ≤ ((h.toNat : Nat) : Int) := by omega
 have b2 : h ≤ ((m.toNat : Nat) : Int) := by omega
 rcases hm with ⟨rfl, rfl⟩ | ⟨y, k, rfl, hy⟩
 ·have b3 : h ≤ ((cap : Nat) : Int) := by omega
  rcases hh with ⟨rfl, rfl⟩ | ⟨y2, k2, rfl, hy2⟩
  ·have b4 : l ≤ (len : Int) := by omega
   rcases hl with ⟨rfl, rfl⟩ | ⟨y3, k3, rfl, hy3⟩
   ·simp [Instr.sliceBounds]
   ·simp [Instr.sliceBounds, Instr.sliceBound, asIntOf, hy3, h0, b4]
  ·rcases hl with ⟨rfl, rfl⟩ | ⟨y3, k3, rfl, hy3⟩
   ·simp [Instr.sliceBounds, Instr.sliceBound, asIntOf, hy2, e0, b3]
   ·simp only [Instr.sliceBounds, Instr.sliceBound, asIntOf, hy2, hy3, Option.map_some, Option.map_none, Sem.run_bind, Sem.run_pure, Result.andThen_ok, e0, b3, and_self, if_true, h0, b1, Option.isSome_none]
    simp
 ·have hy' := hy
  rcases hh with ⟨rfl, rfl⟩ | ⟨y2, k2, rfl, hy2⟩
  ·cases hx rfl
  ·rcases hl with ⟨rfl, rfl⟩ | ⟨y3, k3, rfl, hy3⟩
   ·simp only [Instr.sliceBounds, Instr.sliceBound, asIntOf, hy, hy2, Option.map_some, Option.map_none, Sem.run_bind, Sem.run_pure, Result.andThen_ok, e0, e1, h3, b2, and_self, if_true]
    simp
   ·simp only [Instr.sliceBounds, Instr.sliceBound, asIntOf, hy, hy2, hy3, Option.map_some, Option.map_none, Sem.run_bind, Sem.run_pure, Result.andThen_ok, e0, e1, h3, b2, and_self, if_true, h0, b1]
theorem op_sliceG {t e : TypeId} {x : Operand} {low high max : Option Operand} {A : Option Addr} {n c size : Nat} {lo hi mx : Int} (hop : o.op = .slice t x low high max) (hg : Region.wanted o (yielded ops a.tmps) = true)
  (hx : a.eval x = .slice A n c) (hl : Lim a low 0 lo) (hh : Lim a high n hi) (hm : Lim a max c mx) (hxx : high = none → max = none) (ht : P.underlying t = some (.slice e)) (hs : ∀ w, (sizeOf e).run P w = .ok size w)
  (h0 : 0 ≤ lo) (h1 : lo ≤ hi) (h2 : hi ≤ mx) (h3 : mx ≤ c)
  (h : ∀ A', A' = cutA A lo.toNat mx.toNat size → K (a.put o.dst (.slice A' (hi.toNat - lo.toNat) (mx.toNat - lo.toNat))) w) : OpTo P ops o K Q a w :=
 op_sem (s := Instr.sliceAt t (.slice A n c) (low.map a.eval) (high.map a.eval) (max.map a.eval)) hg (by unfold execOp; simp only [hop, hx]; rfl)
  (by simp [Instr.sliceAt, Instr.slice, run_underlying ht, run_sliceBounds_gen hl hh hm hxx h0 h1 h2 h3, hs]; rfl) (h _ rfl)
-- short
theorem qba {t e : TypeId} {x : Operand} {low high max : Option Operand} {A : Option Addr} {n c size : Nat} {lo hi mx : Int} (hop : o.op = .slice t x low high max) (hl : Lim a low 0 lo) (hh : Lim a high n hi) (hm : Lim a max c mx) (hxx : high = none → max = none) (ht : P.underlying t = some (.slice e)) (hs : ∀ w, (sizeOf e).run P w = .ok size w) (h0 : 0 ≤ lo) (h1 : lo ≤ hi) (h2 : hi ≤ mx) (h3 : mx ≤ c) (h : ∀ A', A' = cutA A lo.toNat mx.toNat size → K (a.put o.dst (.slice A' (hi.toNat - lo.toNat) (mx.toNat - lo.toNat))) w) (hg : Region.wanted o (yielded ops a.tmps) = true := by kernel_rfl) (hx : a.eval x = .slice A n c := by kernel_rfl) : OpTo P ops o K Q a w := op_sliceG hop hg hx hl hh hm hxx ht hs h0 h1 h2 h3 h
-- /short
theorem op_sliceGA {t e : TypeId} {x : Operand} {low high max : Option Operand} {b off n size : Nat} {lo hi mx : Int} (hop : o.op = .slice t x low high max) (hg : Region.wanted o (yielded ops a.tmps) = true)
  (hx : a.eval x = .pointer (some ⟨b, off, none⟩)) (hl : Lim a low 0 lo) (hh : Lim a high n hi) (hm : Lim a max n mx) (hxx : high = none → max = none) (ht : P.underlying t = some (.array n e)) (hs : ∀ w, (sizeOf e).run P w = .ok size w)
  (h0 : 0 ≤ lo) (h1 : lo ≤ hi) (h2 : hi ≤ mx) (h3 : mx ≤ n)
  (h : ∀ A', A' = cutA (some ⟨b, off, none⟩) lo.toNat mx.toNat size → K (a.put o.dst (.slice A' (hi.toNat - lo.toNat) (mx.toNat - lo.toNat))) w) : OpTo P ops o K Q a w :=
 op_sem (s := Instr.sliceAt t (.pointer (some ⟨b, off, none⟩)) (low.map a.eval) (high.map a.eval) (max.map a.eval)) hg (by unfold execOp; simp only [hop, hx]; rfl)
  (v := .slice (cutA (some ⟨b, off, none⟩) lo.toNat mx.toNat size) (hi.toNat - lo.toNat) (mx.toNat - lo.toNat))
  (by
   simp [Instr.sliceAt, Instr.sureAddr, run_underlying ht, run_sliceBounds_gen hl hh hm hxx h0 h1 h2 h3, hs, cutA]
   split <;> rfl) (h _ rfl)
-- short
theorem qbb {t e : TypeId} {x : Operand} {low high max : Option Operand} {b off n size : Nat} {lo hi mx : Int} (hop : o.op = .slice t x low high max) (hl : Lim a low 0 lo) (hh : Lim a high n hi) (hm : Lim a max n mx) (hxx : high = none → max = none) (ht : P.underlying t = some (.array n e)) (hs : ∀ w, (sizeOf e).run P w = .ok size w) (h0 : 0 ≤ lo) (h1 : lo ≤ hi) (h2 : hi ≤ mx) (h3 : mx ≤ n) (h : ∀ A', A' = cutA (some ⟨b, off, none⟩) lo.toNat mx.toNat size → K (a.put o.dst (.slice A' (hi.toNat - lo.toNat) (mx.toNat - lo.toNat))) w) (hg : Region.wanted o (yielded ops a.tmps) = true := by kernel_rfl) (hx : a.eval x = .pointer (some ⟨b, off, none⟩) := by kernel_rfl) : OpTo P ops o K Q a w := op_sliceGA hop hg hx hl hh hm hxx ht hs h0 h1 h2 h3 h
theorem y_sliceG {S : World → Prop} {t e : TypeId} {x : Operand} {low high max : Option Operand} {A A' : Option Addr} {n c size : Nat} {lo hi mx : Int} (hA : A' = cutA A lo.toNat mx.toNat size) (hop : o.op = .slice t x low high max) (hg : Region.wanted o (yielded ops a.tmps) = true)
  (hx : a.eval x = .slice A n c) (hl : Lim a low 0 lo) (hh : Lim a high n hi) (hm : Lim a max c mx) (hxx : high = none → max = none) (ht : P.underlying t = some (.slice e)) (hs : ∀ w, (sizeOf e).run P w = .ok size w)
  (h0 : 0 ≤ lo) (h1 : lo ≤ hi) (h2 : hi ≤ mx) (h3 : mx ≤ c) : YieldsIf P ops S o (.slice A' (hi.toNat - lo.toNat) (mx.toNat - lo.toNat)) a := by
 subst hA
 exact y_sem (s := Instr.sliceAt t (.slice A n c) (low.map a.eval) (high.map a.eval) (max.map a.eval)) hg (by unfold execOp; simp only [hop, hx]; rfl)
  fun w _ => by simp [Instr.sliceAt, Instr.slice, run_underlying ht, run_sliceBounds_gen hl hh hm hxx h0 h1 h2 h3, hs]; rfl
-- short
theorem qcc {S : World → Prop} {t e : TypeId} {x : Operand} {low high max : Option Operand} {A A' : Option Addr} {n c size : Nat} {lo hi mx : Int} (hA : A' = cutA A lo.toNat mx.toNat size) (hop : o.op = .slice t x low high max) (hl : Lim a low 0 lo) (hh : Lim a high n hi) (hm : Lim a max c mx) (hxx : high = none → max = none) (ht : P.underlying t = some (.slice e)) (hs : ∀ w, (sizeOf e).run P w = .ok size w) (h0 : 0 ≤ lo) (h1 : lo ≤ hi) (h2 : hi ≤ mx) (h3 : mx ≤ c) (hg : Region.wanted o (yielded ops a.tmps) = true := by kernel_rfl) (hx : a.eval x = .slice A n c := by kernel_rfl) : YieldsIf P ops S o (.slice A' (hi.toNat - lo.toNat) (mx.toNat - lo.toNat)) a := y_sliceG hA hop hg hx hl hh hm hxx ht hs h0 h1 h2 h3
-- /short
theorem y_sliceGA {S : World → Prop} {t e : TypeId} {x : Operand} {low high max : Option Operand} {A' : Option Addr} {b off n size : Nat} {lo hi mx : Int} (hA : A' = cutA (some ⟨b, off, none⟩) lo.toNat mx.toNat size) (hop : o.op = .slice t x low high max) (hg : Region.wanted o (yielded ops a.tmps) = true)
  (hx : a.eval x = .pointer (some ⟨b, off, none⟩)) (hl : Lim a low 0 lo) (hh : Lim a high n hi) (hm : Lim a max n mx) (hxx : high = none → max = none) (ht : P.underlying t = some (.array n e)) (hs : ∀ w, (sizeOf e).run P w = .ok size w)
  (h0 : 0 ≤ lo) (h1 : lo ≤ hi) (h2 : hi ≤ mx) (h3 : mx ≤ n) : YieldsIf P ops S o (.slice A' (hi.toNat - lo.toNat) (mx.toNat - lo.toNat)) a := by
 subst hA
 exact y_sem (v := .slice (cutA (some ⟨b, off, none⟩) lo.toNat mx.toNat size) (hi.toNat - lo.toNat) (mx.toNat - lo.toNat)) (s := Instr.sliceAt t (.pointer (some ⟨b, off, none⟩)) (low.map a.eval) (high.map a.eval) (max.map a.eval)) hg (by unfold execOp; simp only [hop, hx]; rfl)
  fun w _ => by
   simp [Instr.sliceAt, Instr.sureAddr, run_underlying ht, run_sliceBounds_gen hl hh hm hxx h0 h1 h2 h3, hs, cutA]
   split <;> rfl
-- short
theorem qcd {S : World → Prop} {t e : TypeId} {x : Operand} {low high max : Option Operand} {A' : Option Addr} {b off n size : Nat} {lo hi mx : Int} (hA : A' = cutA (some ⟨b, off, none⟩) lo.toNat mx.toNat size) (hop : o.op = .slice t x low high max) (hl : Lim a low 0 lo) (hh : Lim a high n hi) (hm : Lim a max n mx) (hxx : high = none → max = none) (ht : P.underlying t = some (.array n e)) (hs : ∀ w, (sizeOf e).run P w = .ok size w) (h0 : 0 ≤ lo) (h1 : lo ≤ hi) (h2 : hi ≤ mx) (h3 : mx ≤ n) (hg : Region.wanted o (yielded ops a.tmps) = true := by kernel_rfl) (hx : a.eval x = .pointer (some ⟨b, off, none⟩) := by kernel_rfl) : YieldsIf P ops S o (.slice A' (hi.toNat - lo.toNat) (mx.toNat - lo.toNat)) a := y_sliceGA hA hop hg hx hl hh hm hxx ht hs h0 h1 h2 h3
theorem op_ne_any {t t2 : TypeId} {x' y' : Operand} {x y : Value} {b : Bool} (hop : o.op = .binOp .neq t x' y' t2) (hg : Region.wanted o (yielded ops a.tmps) = true)
  (hx : a.eval x' = x) (hy : a.eval y' = y) (hr : ∀ w, EqRun P w t x y b) (h : K (a.put o.dst (.bool (!b))) w) : OpTo P ops o K Q a w :=
 op_sem (s := do eqGuard .neq t x' y' x y; binOp .neq t x y) hg (by unfold execOp; simp only [hop, hx, hy]; rfl)
  (by simp only [Sem.run_bind, ((hr w).1 x' y').2, Result.andThen_ok, (hr w).2.2]) h
-- short
theorem qau {t t2 : TypeId} {x' y' : Operand} {x y : Value} {b : Bool} (hop : o.op = .binOp .neq t x' y' t2) (hr : ∀ w, EqRun P w t x y b) (h : K (a.put o.dst (.bool (!b))) w) (hg : Region.wanted o (yielded ops a.tmps) = true := by kernel_rfl) (hx : a.eval x' = x := by kernel_rfl) (hy : a.eval y' = y := by kernel_rfl) : OpTo P ops o K Q a w := op_ne_any hop hg hx hy hr h
theorem y_ne_any {S : World → Prop} {t t2 : TypeId} {x' y' : Operand} {x y : Value} {b : Bool} (hop : o.op = .binOp .neq t x' y' t2) (hg : Region.wanted o (yielded ops a.tmps) = true)
  (hx : a.eval x' = x) (hy : a.eval y' = y) (hr : ∀ w, EqRun P w t x y b) : YieldsIf P ops S o (.bool (!b)) a :=
 y_sem (s := do eqGuard .neq t x' y' x y; binOp .neq t x y) hg (by unfold execOp; simp only [hop, hx, hy]; rfl)
  fun w _ => by simp only [Sem.run_bind, ((hr w).1 x' y').2, Result.andThen_ok, (hr w).2.2]
-- short
theorem qby {S : World → Prop} {t t2 : TypeId} {x' y' : Operand} {x y : Value} {b : Bool} (hop : o.op = .binOp .neq t x' y' t2) (hr : ∀ w, EqRun P w t x y b) (hg : Region.wanted o (yielded ops a.tmps) = true := by kernel_rfl) (hx : a.eval x' = x := by kernel_rfl) (hy : a.eval y' = y := by kernel_rfl) : YieldsIf P ops S o (.bool (!b)) a := y_ne_any hop hg hx hy hr
-- /short
theorem op_bin {op : BinOp} {t t2 : TypeId} {x' y' : Operand} {k k2 : IntKind} {x y z : Int} (hop : o.op = .binOp op t x' y' t2) (hg : Region.wanted o (yielded ops a.tmps) = true)
  (hx : a.eval x' = .int k x) (hy : a.eval y' = .int k2 y) (hr : (do eqGuard op t x' y' (.int k x) (.int k2 y); binOp op t (.int k x) (.int k2 y) : Sem Value).run P w = .ok (.int k z) w)
  (h : K (a.put o.dst (.int k z)) w) : OpTo P ops o K Q a w :=
 op_sem (s := do eqGuard op t x' y' (.int k x) (.int k2 y); binOp op t (.int k x) (.int k2 y)) hg (by unfold execOp; simp only [hop, hx, hy]; rfl) hr h
theorem op_rem {t t2 : TypeId} {x' y' : Operand} {k : IntKind} {x y : Int} (hop : o.op = .binOp .rem t x' y' t2) (hg : Region.wanted o (yielded ops a.tmps) = true)
  (hx : a.eval x' = .int k x) (hy : a.eval y' = .int k y) (h0 : y ≠ 0) (h : K (a.put o.dst (.int k (x.tmod y))) w) : OpTo P ops o K Q a w :=
 op_bin hop hg hx hy (by simp [eqGuard, binOp, Op.intDiv, h0]) h
-- short
theorem qax {t t2 : TypeId} {x' y' : Operand} {k : IntKind} {x y : Int} (hop : o.op = .binOp .rem t x' y' t2) (h0 : y ≠ 0) (h : K (a.put o.dst (.int k (x.tmod y))) w) (hg : Region.wanted o (yielded ops a.tmps) = true := by kernel_rfl) (hx : a.eval x' = .int k x := by kernel_rfl) (hy : a.eval y' = .int k y := by kernel_rfl) : OpTo P ops o K Q a w := op_rem hop hg hx hy h0 h
-- /short
theorem op_shl {t t2 : TypeId} {x' y' : Operand} {k k2 : IntKind} {x y : Int} (hop : o.op = .binOp .shl t x' y' t2) (hg : Region.wanted o (yielded ops a.tmps) = true)
  (hx : a.eval x' = .int k x) (hy : a.eval y' = .int k2 y) (h0 : 0 ≤ y) (h : K (a.put o.dst (.int k (iShl k x y))) w) : OpTo P ops o K Q a w :=
 op_bin hop hg hx hy (by simp [eqGuard, binOp, Op.shift, show ¬ y < 0 by omega, iShl]) h
-- short
theorem qay {t t2 : TypeId} {x' y' : Operand} {k k2 : IntKind} {x y : Int} (hop : o.op = .binOp .shl t x' y' t2) (h0 : 0 ≤ y) (h : K (a.put o.dst (.int k (iShl k x y))) w) (hg : Region.wanted o (yielded ops a.tmps) = true := by kernel_rfl) (hx : a.eval x' = .int k x := by kernel_rfl) (hy : a.eval y' = .int k2 y := by kernel_rfl) : OpTo P ops o K Q a w := op_shl hop hg hx hy h0 h
-- /short
theorem op_shr {t t2 : TypeId} {x' y' : Operand} {k k2 : IntKind} {x y : Int} (hop : o.op = .binOp .shr t x' y' t2) (hg : Region.wanted o (yielded ops a.tmps) = true)
  (hx : a.eval x' = .int k x) (hy : a.eval y' = .int k2 y) (h0 : 0 ≤ y) (h : K (a.put o.dst (.int k (iShr k x y))) w) : OpTo P ops o K Q a w :=
 op_bin hop hg hx hy (by simp [eqGuard, binOp, Op.shift, show ¬ y < 0 by omega, iShr]) h
-- short
theorem qaz {t t2 : TypeId} {x' y' : Operand} {k k2 : IntKind} {x y : Int} (hop : o.op = .binOp .shr t x' y' t2) (h0 : 0 ≤ y) (h : K (a.put o.dst (.int k (iShr k x y))) w) (hg : Region.wanted o (yielded ops a.tmps) = true := by kernel_rfl) (hx : a.eval x' = .int k x := by kernel_rfl) (hy : a.eval y' = .int k2 y := by kernel_rfl) : OpTo P ops o K Q a w := op_shr hop hg hx hy h0 h
-- /short
end
end Go.Proofs.YtpkfdhlkknanmaaGreat
