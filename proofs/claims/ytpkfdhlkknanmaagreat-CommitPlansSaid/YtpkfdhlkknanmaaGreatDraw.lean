/-
 Regions that draw their order: whatever yields its value in every world that meets S is taken first; S is shown anew behind each operation but the last ones (T), each of which waits for all others.
-/
import Derived.Test.YtpkfdhlkknanmaaGreatOps
import Derived.OrdersHeld
import Derived.Laws.Rows
set_option linter.all false
namespace Go.Proofs.YtpkfdhlkknanmaaGreat
open Go Go.RowKit
section
variable {P : Program} {ops : Array Oper} {Q : Exit → Act → World → Prop} {S : World → Prop} {T : List Nat}
/-- Does operation 't' wait for 'i', through others? -/
def waitsT (ops : Array Oper) : Nat → Nat → Nat → Bool
 | 0, _, _ => false
 | f + 1, t, i =>
  match ops[t]? with
  | some o => o.after.any fun e => Region.binds .any e && (e.on == i || waitsT ops f e.on i)
  | none => false
def Closed (ops : Array Oper) (listed : Array Bool) : Prop :=
 ∀ j oj, ops[j]? = some oj → listed.getD j false = true → ∀ e ∈ oj.after, Region.binds .any e = true → listed.getD e.on false = true
def closedB (ops : Array Oper) (listed : Array Bool) : Bool :=
 (List.range ops.size).all fun j => !listed.getD j false || match ops[j]? with
  | some o => o.after.all fun e => !Region.binds .any e || listed.getD e.on false
  | none => true
theorem closed_of {listed : Array Bool} (h : closedB ops listed = true) : Closed ops listed := by
 intro j oj hj hl e he hb
 simp only [closedB, List.all_eq_true, List.mem_range] at h
 have h1 := h j (Array.getElem?_eq_some_iff.1 hj).1
 simp only [hj, hl, Bool.not_true, Bool.false_or] at h1
 have h2 := Array.all_eq_true_iff_forall_mem.1 h1 e he
 simpa [hb] using h2
theorem waits_listed {listed : Array Bool} (hc : Closed ops listed) : ∀ (f t i : Nat), waitsT ops f t i = true → listed.getD t false = true → listed.getD i false = true
 | 0, _, _, h, _ => by simp [waitsT] at h
 | f + 1, t, i, h, ht => by
  unfold waitsT at h
  split at h
  ·rename_i o ho
   obtain ⟨e, he, hb⟩ := Array.any_eq_true'.1 h
   simp only [Bool.and_eq_true, Bool.or_eq_true, beq_iff_eq] at hb
   have h1 := hc t o ho ht e he hb.1
   rcases hb.2 with rfl | h2
   ·exact h1
   ·exact waits_listed hc f e.on i h2 h1
  ·cases h
theorem waits_ready {listed : Array Bool} (hc : Closed ops listed) {f t i : Nat} (h : waitsT ops f t i = true) (hr : t ∈ Region.ready .any ops listed) : listed.getD i false = true := by
 obtain ⟨_, o, ho, hall⟩ := mem_ready.1 hr
 cases f with
 | zero => simp [waitsT] at h
 | succ f =>
  unfold waitsT at h
  rw [ho] at h
  obtain ⟨e, he, hb⟩ := Array.any_eq_true'.1 h
  simp only [Bool.and_eq_true, Bool.or_eq_true, beq_iff_eq] at hb
  have h1 := hall e he hb.1
  rcases hb.2 with rfl | h2
  ·exact h1
  ·exact waits_listed hc f e.on i h2 h1
theorem closed_set {listed : Array Bool} (hc : Closed ops listed) {i : Nat} (hi : i ∈ Region.ready .any ops listed) : Closed ops (listed.setIfInBounds i true) := by
 obtain ⟨_, oi, hoi, hall⟩ := mem_ready.1 hi
 intro j oj hj hl e he hb
 by_cases hij : i = j
 ·subst hij
  have : oj = oi := Option.some.inj (hj.symm.trans hoi)
  subst this
  exact getD_set_true (hall e he hb)
 ·rw [getD_set_ne false hij] at hl
  exact getD_set_true (hc j oj hj hl e he hb)
/-- Whatever order is picked from here on; behind each operation outside T the world meets S. -/
def wpAnyT (P : Program) (ops : Array Oper) (Q : Exit → Act → World → Prop) (S : World → Prop) (T : List Nat) : Nat → Array Bool → Act → World → Prop
 | 0, listed, a, w => Region.ready .any ops listed = [] ∧ Q .normal a w
 | fuel + 1, listed, a, w =>
  (Region.ready .any ops listed = [] → Q .normal a w) ∧
  ∀ i ∈ Region.ready .any ops listed, wpOp P ops Q i (fun a' w' => (T.contains i = false → S w → S w') ∧ wpAnyT P ops Q S T fuel (listed.setIfInBounds i true) a' w') a w
theorem wpAny_of_T : ∀ (fuel : Nat) (listed : Array Bool) (a : Act) (w : World), wpAnyT P ops Q S T fuel listed a w → wpAny P .any ops Q fuel listed a w
 | 0, _, _, _, h => h
 | fuel + 1, _, _, _, h => ⟨h.1, fun i hi => wpOp_mono (fun a' w' h' => wpAny_of_T fuel _ a' w' h'.2) (h.2 i hi)⟩
theorem wpAnyT_first {i f : Nat} {oi : Oper} {v : Value} (hi : ops[i]? = some oi) (hsel : ∀ (j : Nat) (o : Oper) cs b, ops[j]? = some o → o.op ≠ .select cs b)
  (hQ : ∀ c a w, Q (.panic c) (a.put oi.dst v) w → Q (.panic c) a w) (hi0 : T.contains i = false) (hT : ∀ t ∈ T, waitsT ops f t i = true) :
  ∀ (fuel : Nat) (listed : Array Bool) (a : Act) (w : World), Closed ops listed →
   (∀ j oj, ops[j]? = some oj → j ≠ i → listed.getD j true = false → (∀ e ∈ oj.after, Region.binds .any e = true → e.on ≠ i) → oi.apart ops oj = true) →
   i ∈ Region.ready .any ops listed → YieldsIf P ops S oi v a → S w →
   wpAnyT P ops Q S T fuel (listed.setIfInBounds i true) (a.put oi.dst v) w → wpAnyT P ops Q S T (fuel + 1) listed a w := by
 intro fuel
 induction fuel with
 | zero =>
  intro listed a w _ _ hr hy hS H
  refine ⟨fun h => (by rw [h] at hr; cases hr), fun j hj => ?_⟩
  by_cases hji : j = i
  ·subst hji; exact hy.wpOp hi hS ⟨fun _ h => h, H⟩
  ·have := ready_mono hj hji
   rw [H.1] at this
   cases this
 | succ fuel ih =>
  intro listed a w hcl hfree hr hy hS H
  refine ⟨fun h => (by rw [h] at hr; cases hr), fun j hj => ?_⟩
  by_cases hji : j = i
  ·subst hji; exact hy.wpOp hi hS ⟨fun _ h => h, H⟩
  ·have h1 := H.2 j (ready_mono hj hji)
   obtain ⟨hjun, oj, hoj, hall⟩ := mem_ready.1 hj
   have hiun : listed.getD i false = false := by
    have h0 := (mem_ready.1 hr).1
    rcases Nat.lt_or_ge i listed.size with h' | h'
    ·simp [h'] at h0 ⊢; exact h0
    ·simp [Array.getElem?_eq_none h']
   have hjT : T.contains j = false := by
    cases hc : T.contains j with
    | false => rfl
    | true =>
     have := waits_ready hcl (hT j (by simpa using hc)) hj
     rw [hiun] at this
     cases this
   have hnot : ∀ e ∈ oj.after, Region.binds .any e = true → e.on ≠ i := fun e he hb heq => by
    have h1 := hall e he hb
    rw [heq, hiun] at h1
    cases h1
   have h2 := wpOp_putIf hoj (hfree j oj hoj hji hjun hnot) (fun cs b => hsel i oi cs b hi) (fun cs b => hsel j oj cs b hoj) hQ hy h1
   have hfree' : ∀ k ok, ops[k]? = some ok → k ≠ i → (listed.setIfInBounds j true).getD k true = false →
     (∀ e ∈ ok.after, Region.binds .any e = true → e.on ≠ i) → oi.apart ops ok = true := fun k ok hk hki hun hno => by
    refine hfree k ok hk hki ?_ hno
    by_cases hjk : j = k
    ·subst hjk; exact hjun
    ·rw [getD_set_ne true hjk] at hun; exact hun
   refine wpOp_mono (fun a' w' h3 => ⟨h3.2.1, ih (listed.setIfInBounds j true) a' w' (closed_set hcl hj) hfree' (ready_mono hr (Ne.symm hji)) h3.1 (h3.2.1 hjT hS) ?_⟩) h2
   rw [Array.setIfInBounds_comm _ _ hji]
   exact h3.2.2
/-- The rest of a region that draws (a structure: nothing looks into it). -/
structure WD (P : Program) (ops : Array Oper) (Q : Exit → Act → World → Prop) (S : World → Prop) (T : List Nat) (fuel : Nat) (listed : Array Bool) (a : Act) (w : World) : Prop where
 out : wpAnyT P ops Q S T fuel listed a w
theorem wpAnyT_firstP {i : Nat} {oi : Oper} {v : Value} (hi : ops[i]? = some oi) (hsel : ∀ (j : Nat) (o : Oper) cs b, ops[j]? = some o → o.op ≠ .select cs b)
  (hQ : ∀ c a w, Q (.panic c) (a.put oi.dst v) w → Q (.panic c) a w) :
  ∀ (fuel : Nat) (listed : Array Bool) (a : Act) (w : World),
   (∀ j oj, ops[j]? = some oj → j ≠ i → listed.getD j true = false → (∀ e ∈ oj.after, Region.binds .any e = true → e.on ≠ i) → oi.apart ops oj = true) →
   i ∈ Region.ready .any ops listed → YieldsIf P ops (fun _ => True) oi v a →
   wpAnyT P ops Q S T fuel (listed.setIfInBounds i true) (a.put oi.dst v) w → wpAnyT P ops Q S T (fuel + 1) listed a w := by
 intro fuel
 induction fuel with
 | zero =>
  intro listed a w _ hr hy H
  refine ⟨fun h => (by rw [h] at hr; cases hr), fun j hj => ?_⟩
  by_cases hji : j = i
  ·subst hji; exact hy.wpOp hi trivial ⟨fun _ h => h, H⟩
  ·have := ready_mono hj hji
   rw [H.1] at this
   cases this
 | succ fuel ih =>
  intro listed a w hfree hr hy H
  refine ⟨fun h => (by rw [h] at hr; cases hr), fun j hj => ?_⟩
  by_cases hji : j = i
  ·subst hji; exact hy.wpOp hi trivial ⟨fun _ h => h, H⟩
  ·have h1 := H.2 j (ready_mono hj hji)
   obtain ⟨hjun, oj, hoj, hall⟩ := mem_ready.1 hj
   have hiun : listed.getD i false = false := by
    have h0 := (mem_ready.1 hr).1
    rcases Nat.lt_or_ge i listed.size with h' | h'
    ·simp [h'] at h0 ⊢; exact h0
    ·simp [Array.getElem?_eq_none h']
   have hnot : ∀ e ∈ oj.after, Region.binds .any e = true → e.on ≠ i := fun e he hb heq => by
    have h1 := hall e he hb
    rw [heq, hiun] at h1
    cases h1
   have h2 := wpOp_putIf hoj (hfree j oj hoj hji hjun hnot) (fun cs b => hsel i oi cs b hi) (fun cs b => hsel j oj cs b hoj) hQ hy h1
   have hfree' : ∀ k ok, ops[k]? = some ok → k ≠ i → (listed.setIfInBounds j true).getD k true = false →
     (∀ e ∈ ok.after, Region.binds .any e = true → e.on ≠ i) → oi.apart ops ok = true := fun k ok hk hki hun hno => by
    refine hfree k ok hk hki ?_ hno
    by_cases hjk : j = k
    ·subst hjk; exact hjun
    ·rw [getD_set_ne true hjk] at hun; exact hun
   refine wpOp_mono (fun a' w' h3 => ⟨h3.2.1, ih (listed.setIfInBounds j true) a' w' hfree' (ready_mono hr (Ne.symm hji)) h3.1 ?_⟩) h2
   rw [Array.setIfInBounds_comm _ _ hji]
   exact h3.2.2
/-- All that stood is as it was. -/
def Keep (w w' : World) : Prop := ∀ k, k < w.heap.size → w'.heap[k]? = w.heap[k]?
theorem keep_drew {w w1 : World} (h : w1 = w.drew) : Keep w w1 := by subst h; exact fun _ _ => rfl
theorem keep_cell {w w' : World} (h : Keep w w') {ad : Addr} {v : Value} (hc : w.cell? ad = some v) : w'.cell? ad = some v :=
 (World.cell?_of_block (h _ (block_lt_of_cell hc))).trans hc
theorem keep_range {w w' : World} (h : Keep w w') {b o : Nat} {cs : List Value} (hc : w.rangeAt b o cs) : w'.rangeAt b o cs :=
 fun j v hj => keep_cell h (hc j v hj)
/-- Begin. -/
theorem wd_begin {id : Nat} {a : Act} {w : World} {l : List Oper} (hm : P.follows .mixedOrders = true) (S : World → Prop) (T : List Nat)
  (h : ∀ w1, w1 = w.drew → WD P l.toArray Q S T l.toArray.size (Array.replicate l.toArray.size false) a w1) : (Code.region id l.toArray true).wp P Q a w :=
 wp_region_any hm (wpAny_of_T _ _ _ _ (h _ rfl).out)
-- short
theorem qbj {id : Nat} {a : Act} {w : World} {l : List Oper} (S : World → Prop) (T : List Nat) (h : ∀ w1, w1 = w.drew → WD P l.toArray Q S T l.toArray.size (Array.replicate l.toArray.size false) a w1) (hm : P.follows .mixedOrders = true := by kernel_rfl) : (Code.region id l.toArray true).wp P Q a w := wd_begin hm S T h
-- /short
/-- Take number 'i' first. -/
theorem wd_take (i : Nat) {oi : Oper} {v : Value} {fuel : Nat} {listed : Array Bool} {a : Act} {w : World} (hi : ops[i]? = some oi)
  (hside : (Region.noSelect ops && Region.free .any ops listed i && (Region.ready .any ops listed).contains i && !T.contains i && T.all (fun t => waitsT ops ops.size t i) && closedB ops listed && decide (1 ≤ fuel)) = true)
  (hQ : ∀ c a w, Q (.panic c) (a.put oi.dst v) w → Q (.panic c) a w) (hy : YieldsIf P ops S oi v a) (hS : S w)
  (h : WD P ops Q S T (fuel - 1) (listed.setIfInBounds i true) (a.put oi.dst v) w) : WD P ops Q S T fuel listed a w := by
 simp only [Bool.and_eq_true, Bool.not_eq_true', decide_eq_true_eq] at hside
 obtain ⟨⟨⟨⟨⟨⟨h1, h2⟩, h3⟩, h4⟩, h5⟩, h6⟩, h7⟩ := hside
 obtain ⟨f, rfl⟩ : ∃ f, fuel = f + 1 := ⟨fuel - 1, by omega⟩
 exact ⟨wpAnyT_first (f := ops.size) hi (Region.noSelect_spec h1) hQ h4 (fun t ht => List.all_eq_true.1 h5 t ht) f listed a w (closed_of h6) (Region.free_spec hi h2) (by simpa using h3) hy hS h.out⟩
-- short
theorem qbn (i : Nat) {oi : Oper} {v : Value} {fuel : Nat} {listed : Array Bool} {a : Act} {w : World} (hi : ops[i]? = some oi) (hy : YieldsIf P ops S oi v a) (hS : S w) (h : WD P ops Q S T (fuel - 1) (listed.setIfInBounds i true) (a.put oi.dst v) w) (hside : (Region.noSelect ops && Region.free .any ops listed i && (Region.ready .any ops listed).contains i && !T.contains i && T.all (fun t => waitsT ops ops.size t i) && closedB ops listed && decide (1 ≤ fuel)) = true := by kernel_rfl) (hQ : ∀ c a w, Q (.panic c) (a.put oi.dst v) w → Q (.panic c) a w := by exact fun _ _ _ h => h) : WD P ops Q S T fuel listed a w := wd_take i hi hside hQ hy hS h
-- /short
/-- .. one that asks nothing of the world, at the end. -/
theorem wd_takeP (i : Nat) {oi : Oper} {v : Value} {fuel : Nat} {listed : Array Bool} {a : Act} {w : World} (hi : ops[i]? = some oi)
  (hside : (Region.noSelect ops && Region.free .any ops listed i && (Region.ready .any ops listed).contains i && decide (1 ≤ fuel)) = true)
  (hQ : ∀ c a w, Q (.panic c) (a.put oi.dst v) w → Q (.panic c) a w) (hy : YieldsIf P ops (fun _ => True) oi v a)
  (h : WD P ops Q S T (fuel - 1) (listed.setIfInBounds i true) (a.put oi.dst v) w) : WD P ops Q S T fuel listed a w := by
 simp only [Bool.and_eq_true, decide_eq_true_eq] at hside
 obtain ⟨⟨⟨h1, h2⟩, h3⟩, h7⟩ := hside
 obtain ⟨f, rfl⟩ : ∃ f, fuel = f + 1 := ⟨fuel - 1, by omega⟩
 exact ⟨wpAnyT_firstP hi (Region.noSelect_spec h1) hQ f listed a w (Region.free_spec hi h2) (by simpa using h3) hy h.out⟩
-- short
theorem qbo (i : Nat) {oi : Oper} {v : Value} {fuel : Nat} {listed : Array Bool} {a : Act} {w : World} (hi : ops[i]? = some oi) (hy : YieldsIf P ops (fun _ => True) oi v a) (h : WD P ops Q S T (fuel - 1) (listed.setIfInBounds i true) (a.put oi.dst v) w) (hside : (Region.noSelect ops && Region.free .any ops listed i && (Region.ready .any ops listed).contains i && decide (1 ≤ fuel)) = true := by kernel_rfl) (hQ : ∀ c a w, Q (.panic c) (a.put oi.dst v) w → Q (.panic c) a w := by exact fun _ _ _ h => h) : WD P ops Q S T fuel listed a w := wd_takeP i hi hside hQ hy h
-- /short
/-- One operation stands alone. -/
theorem wd_one (i : Nat) {o : Oper} {fuel : Nat} {listed : Array Bool} {a : Act} {w : World} (hi : ops[i]? = some o) (hr : Region.ready .any ops listed = [i]) (hf : (decide (1 ≤ fuel)) = true)
  (h : OpTo P ops o (fun a' w' => (T.contains i = false → S w → S w') ∧ WD P ops Q S T (fuel - 1) (listed.setIfInBounds i true) a' w') Q a w) : WD P ops Q S T fuel listed a w := by
 obtain ⟨f, rfl⟩ : ∃ f, fuel = f + 1 := ⟨fuel - 1, by have := of_decide_eq_true hf; omega⟩
 refine ⟨⟨fun h0 => (by rw [hr] at h0; cases h0), fun j hj => ?_⟩⟩
 rw [hr] at hj
 simp only [List.mem_singleton] at hj
 subst hj
 have h' : wpOp P ops Q j (fun a' w' => (T.contains j = false → S w → S w') ∧ WD P ops Q S T (f + 1 - 1) (listed.setIfInBounds j true) a' w') a w := by
  unfold wpOp
  rw [hi]
  exact h.out
 exact wpOp_mono (fun a' w' h => ⟨h.1, h.2.out⟩) h'
-- short
theorem qbm (i : Nat) {o : Oper} {fuel : Nat} {listed : Array Bool} {a : Act} {w : World} (hi : ops[i]? = some o) (h : OpTo P ops o (fun a' w' => (T.contains i = false → S w → S w') ∧ WD P ops Q S T (fuel - 1) (listed.setIfInBounds i true) a' w') Q a w) (hr : Region.ready .any ops listed = [i] := by kernel_rfl) (hf : (decide (1 ≤ fuel)) = true := by kernel_rfl) : WD P ops Q S T fuel listed a w := wd_one i hi hr hf h
-- /short
theorem wd_done {fuel : Nat} {listed : Array Bool} {a : Act} {w : World} (hr : Region.ready .any ops listed = []) (h : Q .normal a w) : WD P ops Q S T fuel listed a w := by
 refine ⟨?_⟩
 cases fuel with
 | zero => exact ⟨hr, h⟩
 | succ n => exact ⟨fun _ => h, fun i hi => by rw [hr] at hi; cases hi⟩
-- short
theorem qbk {fuel : Nat} {listed : Array Bool} {a : Act} {w : World} (h : Q .normal a w) (hr : Region.ready .any ops listed = [] := by kernel_rfl) : WD P ops Q S T fuel listed a w := wd_done hr h
-- /short
theorem wd_lit {fuel : Nat} {listed : Array Bool} {a : Act} {w : World} (d : Nat) {e b : Bool} (hd : a.tmps[d]? = some (.bool e)) (he : e = b) (h : WD P ops Q S T fuel listed (a.put (some d) (.bool b)) w) : WD P ops Q S T fuel listed a w := by
 subst he
 rwa [put_lit hd] at h
-- short
theorem qbl {fuel : Nat} {listed : Array Bool} {a : Act} {w : World} (d : Nat) {e b : Bool} (he : e = b) (h : WD P ops Q S T fuel listed (a.put (some d) (.bool b)) w) (hd : a.tmps[d]? = some (.bool e) := by kernel_rfl) : WD P ops Q S T fuel listed a w := wd_lit d hd he h
-- /short
theorem wd_split {fuel : Nat} {listed : Array Bool} {a : Act} {w : World} {e : Bool} (ht : e = true → WD P ops Q S T fuel listed a w) (hf : e = false → WD P ops Q S T fuel listed a w) : WD P ops Q S T fuel listed a w := by
 cases e
 ·exact hf rfl
 ·exact ht rfl
/-! what is taken first -/
theorem y_pure {o : Oper} {a : Act} {v : Value} (hg : Region.wanted o (yielded ops a.tmps) = true) (h : pureVal P (execOp a.eval o) = some (.value v)) : YieldsIf P ops S o v a :=
 .inl ⟨hg, fun w _ => run_pureVal h w⟩
-- short
theorem qbz {o : Oper} {a : Act} {v : Value} (hg : Region.wanted o (yielded ops a.tmps) = true := by kernel_rfl) (h : pureVal P (execOp a.eval o) = some (.value v) := by kernel_rfl) : YieldsIf P ops S o v a := y_pure hg h
-- /short
theorem y_skip {o : Oper} {a : Act} (hg : Region.wanted o (yielded ops a.tmps) = false) : YieldsIf P ops S o undef a := .inr ⟨hg, rfl⟩
-- short
theorem qcb {o : Oper} {a : Act} (hg : Region.wanted o (yielded ops a.tmps) = false := by kernel_rfl) : YieldsIf P ops S o undef a := y_skip hg
-- /short
theorem y_sem {o : Oper} {a : Act} {v : Value} {s : Sem Value} (hg : Region.wanted o (yielded ops a.tmps) = true) (he : execOp a.eval o = valueOf s) (h : ∀ w, S w → s.run P w = .ok v w) : YieldsIf P ops S o v a :=
 .inl ⟨hg, fun w hw => by rw [he]; exact run_valueOf (h w hw)⟩
theorem y_load {o : Oper} {a : Act} {t : TypeId} {x : Operand} {b off : Nat} {v : Value} (hop : o.op = .load t x) (hg : Region.wanted o (yielded ops a.tmps) = true)
  (hx : a.eval x = .pointer (some ⟨b, off, none⟩)) (ht : ∀ w, (isAgg t).run P w = .ok false w) (hc : ∀ w, S w → w.cell? ⟨b, off, none⟩ = some v) : YieldsIf P ops S o v a :=
 y_sem (s := Instr.loadAt t (.pointer (some ⟨b, off, none⟩))) hg (by unfold execOp; simp only [hop, hx]; rfl) fun w hw => run_load1 ht (hc w hw)
-- short
theorem qbw {o : Oper} {a : Act} {t : TypeId} {x : Operand} {b off : Nat} {v : Value} (hop : o.op = .load t x) (ht : ∀ w, (isAgg t).run P w = .ok false w) (hc : ∀ w, S w → w.cell? ⟨b, off, none⟩ = some v) (hg : Region.wanted o (yielded ops a.tmps) = true := by kernel_rfl) (hx : a.eval x = .pointer (some ⟨b, off, none⟩) := by kernel_rfl) : YieldsIf P ops S o v a := y_load hop hg hx ht hc
-- /short
theorem y_loadN {o : Oper} {a : Act} {t : TypeId} {x : Operand} {b off n : Nat} {cs : List Value} (hop : o.op = .load t x) (hg : Region.wanted o (yielded ops a.tmps) = true)
  (hx : a.eval x = .pointer (some ⟨b, off, none⟩)) (ht : ∀ w, (isAgg t).run P w = .ok true w) (hs : ∀ w, (sizeOf t).run P w = .ok n w) (hl : cs.length = n) (hc : ∀ w, S w → w.rangeAt b off cs) : YieldsIf P ops S o (.agg cs.toArray) a :=
 y_sem (s := Instr.loadAt t (.pointer (some ⟨b, off, none⟩))) hg (by unfold execOp; simp only [hop, hx]; rfl) fun w hw => run_loadN ht hs hl (hc w hw)
-- short
theorem qbx {o : Oper} {a : Act} {t : TypeId} {x : Operand} {b off n : Nat} {cs : List Value} (hop : o.op = .load t x) (ht : ∀ w, (isAgg t).run P w = .ok true w) (hs : ∀ w, (sizeOf t).run P w = .ok n w) (hl : cs.length = n) (hc : ∀ w, S w → w.rangeAt b off cs) (hg : Region.wanted o (yielded ops a.tmps) = true := by kernel_rfl) (hx : a.eval x = .pointer (some ⟨b, off, none⟩) := by kernel_rfl) : YieldsIf P ops S o (.agg cs.toArray) a := y_loadN hop hg hx ht hs hl hc
-- /short
theorem y_index {o : Oper} {a : Act} {t e : TypeId} {x y : Operand} {b off n c size : Nat} {k : IntKind} {j : Int} (hop : o.op = .indexAddr t x y) (hg : Region.wanted o (yielded ops a.tmps) = true)
  (hx : a.eval x = .slice (some ⟨b, off, none⟩) n c) (hy : a.eval y = .int k j) (ht : P.underlying t = some (.slice e)) (hs : ∀ w, (sizeOf e).run P w = .ok size w) (h0 : 0 ≤ j) (h1 : j < n) : YieldsIf P ops S o (.pointer (some ⟨b, off + j.toNat * size, none⟩)) a :=
 y_sem (s := Instr.indexAt t (.slice (some ⟨b, off, none⟩) n c) (.int k j)) hg (by unfold execOp; simp only [hop, hx, hy]; rfl) fun _ _ => run_index_slice ht hs h0 h1
-- short
theorem qbu {o : Oper} {a : Act} {t e : TypeId} {x y : Operand} {b off n c size : Nat} {k : IntKind} {j : Int} (hop : o.op = .indexAddr t x y) (ht : P.underlying t = some (.slice e)) (hs : ∀ w, (sizeOf e).run P w = .ok size w) (h0 : 0 ≤ j) (h1 : j < n) (hg : Region.wanted o (yielded ops a.tmps) = true := by kernel_rfl) (hx : a.eval x = .slice (some ⟨b, off, none⟩) n c := by kernel_rfl) (hy : a.eval y = .int k j := by kernel_rfl) : YieldsIf P ops S o (.pointer (some ⟨b, off + j.toNat * size, none⟩)) a := y_index hop hg hx hy ht hs h0 h1
-- /short
theorem y_indexA {o : Oper} {a : Act} {t e : TypeId} {x y : Operand} {b off n size : Nat} {k : IntKind} {j : Int} (hop : o.op = .indexAddr t x y) (hg : Region.wanted o (yielded ops a.tmps) = true)
  (hx : a.eval x = .pointer (some ⟨b, off, none⟩)) (hy : a.eval y = .int k j) (ht : P.underlying t = some (.array n e)) (hs : ∀ w, (sizeOf e).run P w = .ok size w) (h0 : 0 ≤ j) (h1 : j < n) : YieldsIf P ops S o (.pointer (some ⟨b, off + j.toNat * size, none⟩)) a :=
 y_sem (s := Instr.indexAt t (.pointer (some ⟨b, off, none⟩)) (.int k j)) hg (by unfold execOp; simp only [hop, hx, hy]; rfl) fun _ _ => run_index_array ht hs h0 h1
-- short
theorem qbv {o : Oper} {a : Act} {t e : TypeId} {x y : Operand} {b off n size : Nat} {k : IntKind} {j : Int} (hop : o.op = .indexAddr t x y) (ht : P.underlying t = some (.array n e)) (hs : ∀ w, (sizeOf e).run P w = .ok size w) (h0 : 0 ≤ j) (h1 : j < n) (hg : Region.wanted o (yielded ops a.tmps) = true := by kernel_rfl) (hx : a.eval x = .pointer (some ⟨b, off, none⟩) := by kernel_rfl) (hy : a.eval y = .int k j := by kernel_rfl) : YieldsIf P ops S o (.pointer (some ⟨b, off + j.toNat * size, none⟩)) a := y_indexA hop hg hx hy ht hs h0 h1
end
end Go.Proofs.YtpkfdhlkknanmaaGreat
