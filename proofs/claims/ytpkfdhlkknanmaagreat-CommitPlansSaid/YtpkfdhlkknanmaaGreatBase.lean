/-
 The base of the walks: what a call that returns comes to ('Ret'), and the steps by which a printed walk goes through a function's text.
-/
import Derived.Tactics
import Derived.OrdersHeld
import Derived.Orders
import Derived.Below
import Derived.KernelRfl
import Derived.Deep.RegionHeld
set_option linter.all false
namespace Go.Proofs.YtpkfdhlkknanmaaGreat
open Go Go.RowKit
/-- The call returns a value and a world that meet 'R'. -/
def Ret (P : Program) (f : FuncId) (args : Array Value) (w : World) (R : Value → World → Prop) : Prop :=
 Calls P f args w fun e w' => ∃ v, e = .returned v ∧ R v w'
theorem Ret.mono {P : Program} {f : FuncId} {args : Array Value} {w : World} {R R' : Value → World → Prop}
  (h : Ret P f args w R) (hr : ∀ v w', R v w' → R' v w') : Ret P f args w R' :=
 Calls.mono h fun _ _ ⟨v, he, hv⟩ => ⟨v, he, hr _ _ hv⟩
/-- The post of a body. -/
def RP (P : Program) (fn : Func) (Q : Value → World → Prop) : Exit → Act → World → Prop :=
 bodyPost P fn fun e w' => ∃ v, e = .returned v ∧ Q v w'
section
variable {P : Program} {fn : Func} {a : Act} {w w' : World} {Q : Exit → Act → World → Prop} {R : Value → World → Prop}
theorem ret_of_wp {f : FuncId} {c : Code} {args : Array Value} (hf : P.funcs[f]? = some fn) (hb : fn.body = some c)
  (h : c.wp P (RP P fn R) ⟨args ++ Array.replicate (fn.ntmps - args.size) undef, []⟩ w) : Ret P f args w R :=
 calls_of_wp hf hb h
theorem rp_ret {v : Value} (hr : (results fn a.tmps).run P w = .ok v w) (hd : a.defers = []) (h : R v w) : RP P fn R .ret a w :=
 ⟨hd, v, hr, v, rfl, h⟩
-- short
theorem qbh {v : Value} (h : R v w) (hr : (results fn a.tmps).run P w = .ok v w := by kernel_rfl) (hd : a.defers = [] := by kernel_rfl) : RP P fn R .ret a w := rp_ret hr hd h
-- /short
theorem rp_end {v : Value} (hr : (results fn a.tmps).run P w = .ok v w) (hd : a.defers = []) (h : R v w) : RP P fn R .normal a w :=
 ⟨hd, v, hr, v, rfl, h⟩
-- short
theorem qbg {v : Value} (h : R v w) (hr : (results fn a.tmps).run P w = .ok v w := by kernel_rfl) (hd : a.defers = [] := by kernel_rfl) : RP P fn R .normal a w := rp_end hr hd h
-- /short
theorem then_normal {K : Act → World → Prop} (h : K a w) : Exit.then K Q .normal a w := h
-- short
theorem qz {K : Act → World → Prop} (h : K a w) : Exit.then K Q .normal a w := then_normal h
-- /short
theorem then_ret {K : Act → World → Prop} (h : Q .ret a w) : Exit.then K Q .ret a w := h
-- short
theorem qs {K : Act → World → Prop} (h : Q .ret a w) : Exit.then K Q .ret a w := then_ret h
-- /short
theorem then_exit {K : Act → World → Prop} {i : Nat} (h : Q (.exit i) a w) : Exit.then K Q (.exit i) a w := h
-- short
theorem qr {K : Act → World → Prop} {i : Nat} (h : Q (.exit i) a w) : Exit.then K Q (.exit i) a w := then_exit h
-- /short
theorem block_normal {i : Nat} (h : Q .normal a w) : Exit.inBlock i Q .normal a w := h
-- short
theorem qu {i : Nat} (h : Q .normal a w) : Exit.inBlock i Q .normal a w := block_normal h
-- /short
theorem block_ret {i : Nat} (h : Q .ret a w) : Exit.inBlock i Q .ret a w := h
theorem block_exit_eq {i : Nat} (h : Q .normal a w) : Exit.inBlock i Q (.exit i) a w := by simpa [Exit.inBlock] using h
theorem block_exit_ne {i j : Nat} (hn : (j == i) = false) (h : Q (.exit j) a w) : Exit.inBlock i Q (.exit j) a w := by
 have : j ≠ i := by simpa using hn
 simpa [Exit.inBlock, this] using h
/-! ### pure operations, many at once -/
/-- The value of a computation that touches no memory. -/
def pureVal (P : Program) {α : Type} : Sem α → Option α
 | .pure a => some a
 | .program k => pureVal P (k P)
 | _ => none
theorem run_pureVal {α : Type} {s : Sem α} {x : α} (h : pureVal P s = some x) (w : World) : s.run P w = .ok x w := by
 induction s with
 | pure a => simp only [pureVal, Option.some.injEq] at h; subst h; rfl
 | program k ih => exact ih P h
 | _ => simp [pureVal] at h
def runPure (P : Program) (ops : Array Oper) : List Oper → Act → Option Act
 | [], a => some a
 | o :: l, a =>
  if Region.wanted o (yielded ops a.tmps) then
   match pureVal P (execOp a.eval o) with
   | some (.value v) => runPure P ops l (a.put o.dst v)
   | _ => none
  else runPure P ops l (a.put o.dst undef)
variable {ops : Array Oper} {os rest : List Oper} {o : Oper}
theorem wl_run : ∀ {l : List Oper} {a a' : Act}, runPure P ops l a = some a' → wpList P ops Q rest a' w → wpList P ops Q (l ++ rest) a w
 | [], _, _, h, hr => by simp only [runPure, Option.some.injEq] at h; subst h; exact hr
 | o :: l, a, a', h, hr => by
  rw [List.cons_append]
  unfold wpList
  unfold runPure at h
  split
  ·rename_i hw
   rw [if_pos hw] at h
   split at h
   ·rename_i v hv
    refine .inl ?_
    unfold Oper.wp
    rw [run_pureVal hv]
    exact wl_run h hr
   ·cases h
  ·rename_i hw
   rw [if_neg hw] at h
   exact wl_run h hr
/-- A list of operations to be gone over (a structure: nothing looks into it). -/
structure WL (P : Program) (ops : Array Oper) (Q : Exit → Act → World → Prop) (os : List Oper) (a : Act) (w : World) : Prop where
 out : wpList P ops Q os a w
theorem wp_reg {id : Nat} {l : List Oper} (h : WL P l.toArray Q l a w) : (Code.region id l.toArray false).wp P Q a w := wp_region_lit h.out
-- short
theorem qx {id : Nat} {l : List Oper} (h : WL P l.toArray Q l a w) : (Code.region id l.toArray false).wp P Q a w := wp_reg h
-- /short
theorem wl_nil (h : Q .normal a w) : WL P ops Q [] a w := ⟨h⟩
-- short
theorem qo (h : Q .normal a w) : WL P ops Q [] a w := wl_nil h
-- /short
/-- The first 'n' operations are pure: go over them. -/
theorem wl_pure (n : Nat) (h1 : (runPure P ops (os.take n) a).isSome = true)
  (h : WL P ops Q (os.drop n) ((runPure P ops (os.take n) a).getD a) w) : WL P ops Q os a w := by
 obtain ⟨a', ha⟩ := Option.isSome_iff_exists.1 h1
 rw [ha, Option.getD_some] at h
 have := wl_run ha h.out
 rw [List.take_append_drop] at this
 exact ⟨this⟩
-- short
theorem qbt (n : Nat) (h : WL P ops Q (os.drop n) ((runPure P ops (os.take n) a).getD a) w) (h1 : (runPure P ops (os.take n) a).isSome = true := by kernel_rfl) : WL P ops Q os a w := wl_pure n h1 h
-- /short
/-- All operations that are left are pure. -/
theorem wl_end (h1 : (runPure P ops os a).isSome = true) (h : Q .normal ((runPure P ops os a).getD a) w) : WL P ops Q os a w := by
 obtain ⟨a', ha⟩ := Option.isSome_iff_exists.1 h1
 rw [ha, Option.getD_some] at h
 have := wl_run (rest := []) ha h
 rw [List.append_nil] at this
 exact ⟨this⟩
-- short
theorem qbr (h : Q .normal ((runPure P ops os a).getD a) w) (h1 : (runPure P ops os a).isSome = true := by kernel_rfl) : WL P ops Q os a w := wl_end h1 h
-- /short
theorem put_lit {d : Nat} {e : Bool} (hd : a.tmps[d]? = some (.bool e)) : a.put (some d) (.bool e) = a := by
 obtain ⟨t, ds⟩ := a
 simp only [Act.put, Act.mk.injEq, and_true]
 apply Array.ext_getElem?
 intro i
 simp only at hd
 rw [Array.getElem?_setIfInBounds]
 split
 ·rename_i hi; subst hi
  rw [hd]
  have := (Array.getElem?_eq_some_iff.1 hd).1
  simp [this]
 ·rfl
/-- A slot whose bool is decided: the slot holds the literal. -/
theorem wl_lit (d : Nat) {e b : Bool} (hd : a.tmps[d]? = some (.bool e)) (he : e = b) (h : WL P ops Q os (a.put (some d) (.bool b)) w) : WL P ops Q os a w := by
 subst he
 rwa [put_lit hd] at h
-- short
theorem qbs (d : Nat) {e b : Bool} (he : e = b) (h : WL P ops Q os (a.put (some d) (.bool b)) w) (hd : a.tmps[d]? = some (.bool e) := by kernel_rfl) : WL P ops Q os a w := wl_lit d hd he h
-- /short
theorem wl_split {e : Bool} (ht : e = true → WL P ops Q os a w) (hf : e = false → WL P ops Q os a w) : WL P ops Q os a w := by
 cases e
 ·exact hf rfl
 ·exact ht rfl
/-! ### one operation -/
/-- Operation 'o' is carried out, or passed over, and 'K' holds behind it. -/
structure OpTo (P : Program) (ops : Array Oper) (o : Oper) (K : Act → World → Prop) (Q : Exit → Act → World → Prop) (a : Act) (w : World) : Prop where
 out : if Region.wanted o (yielded ops a.tmps) then o.wp P a w K Q ∨ (o.asks P a w ∧ LetsOut Q) else K (a.put o.dst undef) w
theorem wl_op (h : OpTo P ops o (WL P ops Q rest) Q a w) : WL P ops Q (o :: rest) a w := by
 refine ⟨?_⟩
 replace h := h.out
 unfold wpList
 split
 ·rename_i hw
  rw [if_pos hw] at h
  exact h.imp (Oper.wp_mono fun _ _ h => h.out) id
 ·rename_i hw
  rw [if_neg hw] at h
  exact h.out
-- short
theorem qq (h : OpTo P ops o (WL P ops Q rest) Q a w) : WL P ops Q (o :: rest) a w := wl_op h
-- /short
section
variable {K : Act → World → Prop}
theorem op_val {v : Value} (hg : Region.wanted o (yielded ops a.tmps) = true) (hr : (execOp a.eval o).run P w = .ok (.value v) w')
  (h : K (a.put o.dst v) w') : OpTo P ops o K Q a w := by
 refine ⟨?_⟩
 rw [if_pos hg]
 refine .inl ?_
 unfold Oper.wp
 rw [hr]
 exact h
theorem op_unit (hg : Region.wanted o (yielded ops a.tmps) = true) (hr : (execOp a.eval o).run P w = .ok .skip w')
  (h : K (a.put o.dst undef) w') : OpTo P ops o K Q a w := by
 refine ⟨?_⟩
 rw [if_pos hg]
 refine .inl ?_
 unfold Oper.wp
 rw [hr]
 exact h
theorem op_call {f : FuncId} {args : Array Value} (hg : Region.wanted o (yielded ops a.tmps) = true) (hr : (execOp a.eval o).run P w = .ok (.enter f args) w')
  (h : Ret P f args w' fun v w'' => K (a.put o.dst v) w'') : OpTo P ops o K Q a w := by
 refine ⟨?_⟩
 rw [if_pos hg]
 refine .inl ?_
 unfold Oper.wp
 rw [hr]
 refine Calls.mono h fun e w'' ⟨v, he, hv⟩ => ?_
 subst he
 exact hv
end
/-! ### a loop over a state -/
theorem wp_loop_st {c : Code} {σ : Type} (S : σ → Act → Prop) (I : σ → World → Prop) (μ : σ → World → Nat) (s : σ) (hS : S s a) (hI : I s w)
  (round : ∀ s a w, S s a → I s w → c.wp P (Exit.then (fun a' w' => ∃ s', S s' a' ∧ I s' w' ∧ μ s' w' < μ s w) Q) a w) : (Code.loop c).wp P Q a w := by
 intro b k cs
 have key : ∀ n s a w, μ s w = n → S s a → I s w →
   ∃ e a' w', Q e a' w' ∧ Arrives P (lone (b.at a (.code c :: .inLoop c :: k)) cs w) b k cs e a' w' := by
  intro n
  induction n using Nat.strongRecOn with
  | _ n ih =>
   intro s a w hn hS hI
   obtain ⟨e, a₁, w₁, hq, harr⟩ := round s a w hS hI b (.inLoop c :: k) cs
   cases e with
   | normal =>
    obtain ⟨s', hS', hI', hlt⟩ := hq
    obtain ⟨e₂, a₂, w₂, hq₂, harr₂⟩ := ih (μ s' w₁) (hn ▸ hlt) s' a₁ w₁ rfl hS' hI'
    exact ⟨e₂, a₂, w₂, hq₂, .of_steps (Steps.trans harr (.one step_inLoop)) harr₂⟩
   | exit id => exact ⟨_, a₁, w₁, hq, .pass (x := .inLoop c) rfl (fun _ _ => .inl (by simp)) harr⟩
   | goto l => exact ⟨_, a₁, w₁, hq, .pass (x := .inLoop c) rfl (fun _ _ => .inl (by simp)) harr⟩
   | ret => exact ⟨_, a₁, w₁, hq, .pass (x := .inLoop c) rfl (fun _ _ => .inl (by simp)) harr⟩
   | panic ch => exact ⟨_, a₁, w₁, hq, .pass (x := .inLoop c) rfl (fun _ _ => .inl (by simp)) harr⟩
   | outgrown => exact ⟨_, a₁, w₁, hq, .pass (x := .inLoop c) rfl (fun _ _ => .inl (by simp)) harr⟩
 obtain ⟨e, a', w', hq, harr⟩ := key _ s a w rfl hS hI
 exact ⟨e, a', w', hq, .of_steps (.one step_loop) harr⟩
end
end Go.Proofs.YtpkfdhlkknanmaaGreat
