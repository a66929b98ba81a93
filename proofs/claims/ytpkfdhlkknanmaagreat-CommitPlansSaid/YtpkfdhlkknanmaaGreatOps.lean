/-
 One lemma for each kind of operation that touches memory: how a printed walk goes over it.
-/
import Derived.Test.YtpkfdhlkknanmaaGreatBase
import Derived.ArgAppend
import Derived.Deep.MidRow
import Derived.Deep.DeepAppendWide
import Derived.Laws.MakeOwn
import Derived.Laws.StructEq
import Derived.Room.Entries
set_option linter.all false
namespace Go.Proofs.YtpkfdhlkknanmaaGreat
open Go Go.RowKit
/-- The cells that a slice's address leads to; none are asked for where the list is empty. -/
def RdS (w : World) (A : Option Addr) (xs : List Value) : Prop := xs = [] ∨ ∃ b o, A = some ⟨b, o, none⟩ ∧ w.rangeAt b o xs
/-- All are values of one cell. -/
def One (xs : List Value) : Prop := ∀ v ∈ xs, v.oneCell' = true
def puts (w : World) (A : Option Addr) (k : Nat) (cs : List Value) : World :=
 match A with
 | some a => w.setCells a.block (a.off + k) cs
 | none => w
/-- What an append comes to: in place, or in a new block. -/
def Appended (w : World) (e size : Nat) (zc : Array Value) (A : Option Addr) (n c m : Nat) (olds news : List Value) (A' : Option Addr) (c' : Nat) (w' : World) : Prop :=
 (n + m ≤ c ∧ A' = A ∧ c' = c ∧ w' = puts w A (n * size) news) ∨
 (c < n + m ∧ n + m ≤ c' ∧ c' ≤ maxLen ∧ A' = some ⟨w.heap.size, 0, none⟩ ∧
  w' = w.drew.alloc (.cells ((olds ++ news).toArray ++ Builtin.zeroCells zc (c' - (n + m))) e))
/-- May 'm' cells from place 'k' on be written? -/
def Room (w : World) (A : Option Addr) (k m : Nat) : Prop := m = 0 ∨ ∃ b o, A = some ⟨b, o, none⟩ ∧ w.there b (o + k) m
section
variable {P : Program} {w : World}
theorem info_of_run {t : TypeId} {i : TypeInfo} (h : ∀ w, (typeInfo t).run P w = .ok i w) : P.info? t = some i := by
 have h := h default
 cases hq : P.info? t with
 | none => simp [typeInfo, hq, stuck] at h
 | some j => simp [typeInfo, hq] at h; rw [h]
theorem run_firstCells_rd {size n len cap : Nat} {A : Option Addr} {cs : List Value} (hl : cs.length = n * size) (h : RdS w A cs) :
  (Builtin.firstCells size n (.slice A len cap)).run P w = .ok cs.toArray w := by
 rcases h with rfl | ⟨b, o, rfl, h⟩
 ·have h0 : n * size = 0 := by simpa using hl.symm
  cases A with
  | none => exact run_firstCells_none w size n len cap
  | some a => simp [Builtin.firstCells, h0, loadCells, loadCellsFrom]
 ·exact run_firstCells_some w size n ⟨b, o, none⟩ len cap cs hl (fun j v hv => by rw [Addr.add_mid]; exact h j v hv)
theorem run_storeCells_puts {A : Option Addr} {k : Nat} {cs : List Value} (h1 : One cs) (h : Room w A k cs.length) :
  (match A with | some a => storeCells (a.add k) cs | none => pure ()).run P w = .ok () (puts w A k cs) := by
 rcases h with h | ⟨b, o, rfl, h⟩
 ·have : cs = [] := List.eq_nil_of_length_eq_zero h
  subst this
  cases A <;> simp [puts, storeCells, World.setCells]
 ·have := run_storeCells_cells (P := P) b (o + k) cs 0 w (fun j hj => by simpa using (h j hj).1) (fun j hj => by simpa using (h j hj).2) h1
  simp only [Nat.add_zero] at this
  simp only [puts, Addr.add_mid]
  exact this
theorem run_append_fit {t tx ty e e2 : TypeId} {i : TypeInfo} (ht : P.underlying t = some (.slice e)) (htx : P.underlying tx = some (.slice e2)) (hi : P.info? e = some i)
  {A B : Option Addr} {n c m c2 : Nat} {news : List Value} (hl : news.length = m * i.size) (hnews : RdS w B news) (h1 : One news)
  (hroom : n + m ≤ c) (hr : Room w A (n * i.size) news.length) :
  (Builtin.append_ #[t, tx] ty #[.slice A n c, .slice B m c2]).run P w = .ok (.slice A (n + m) c) (puts w A (n * i.size) news) := by
 have hfc := run_firstCells_rd (P := P) (len := m) (cap := c2) hl hnews
 have hst := run_storeCells_puts (P := P) h1 hr
 cases A with
 | none => simp [Builtin.append_, run_underlying ht, run_underlying htx, sizeOf, typeInfo, hi, Builtin.lenOf, hroom, hfc, puts]
 | some a =>
  simp only at hst
  simp [Builtin.append_, run_underlying ht, run_underlying htx, sizeOf, typeInfo, hi, Builtin.lenOf, hroom, hfc, hst]
theorem run_append_new {t tx ty e e2 : TypeId} {i : TypeInfo} {z : Value} (ht : P.underlying t = some (.slice e)) (htx : P.underlying tx = some (.slice e2)) (hi : P.info? e = some i) (hz : i.zero = some z)
  {A B : Option Addr} {n c m c2 : Nat} {olds news : List Value} (hlo : olds.length = n * i.size) (holds : RdS w A olds) (hl : news.length = m * i.size) (hnews : RdS w B news)
  (hg : c < n + m) (hby : 0 < i.bytes) (hbytes : (n + m) * i.bytes ≤ 140737488355328) :
  ∃ cap, n + m ≤ cap ∧ cap ≤ maxLen ∧ (Builtin.append_ #[t, tx] ty #[.slice A n c, .slice B m c2]).run P w =
   .ok (.slice (some ⟨w.heap.size, 0, none⟩) (n + m) cap) (w.drew.alloc (.cells ((olds ++ news).toArray ++ Builtin.zeroCells z.cells (cap - (n + m))) e)) := by
 have hn63 : n + m ≤ maxLen := by
  have : n + m ≤ (n + m) * i.bytes := Nat.le_mul_of_pos_right _ hby
  simp only [maxLen]; omega
 have hfo := run_firstCells_rd (P := P) (w := w.drew) (len := n) (cap := c) hlo (by
  rcases holds with h | ⟨b, o, h, hr⟩
  ·exact .inl h
  ·exact .inr ⟨b, o, h, hr⟩)
 have hfn := run_firstCells_rd (P := P) (w := w.drew) (len := m) (cap := c2) hl (by
  rcases hnews with h | ⟨b, o, h, hr⟩
  ·exact .inl h
  ·exact .inr ⟨b, o, h, hr⟩)
 have hfit := growslice_fits hg hbytes
 have hge := grownCap_ge w (n + m) c e
 have hcm : grownCap w (n + m) c e ≤ maxLen := grownCap_le_maxLen w (n + m) c e hn63
 refine ⟨grownCap w (n + m) c e, hge, hcm, ?_⟩
 have h0 : ¬ (n + m ≤ c) := by omega
 have hb0 : i.bytes ≠ 0 := by omega
 have hfit' : ¬ (281474976710656 < Builtin.nextslicecap (n + m) c * i.bytes) := by omega
 have hch : (choose (.appendCap (n + m) c e)).run P w = .ok (grownCap w (n + m) c e) w.drew := rfl
 have hask : ∀ w', (askRoom (grownCap w (n + m) c e * i.bytes)).run P w' = .ok () w' := by
  intro w'; unfold askRoom; split <;> rfl
 simp [Builtin.append_, run_underlying ht, run_underlying htx, sizeOf, typeInfo, hi, Builtin.lenOf, h0, hb0, hfit', hch, hask, hfo, hfn, zeroValue, hz, newRow]
 rw [if_neg (fun h => Bool.noConfusion h)]
 show Result.ok (Value.slice _ _ (grownCap w (n + m) c e)) (World.alloc _ (.cells (_ ++ (_ ++ Builtin.zeroCells _ (grownCap w (n + m) c e - _))) _)) = _
 have hE : ∀ Z : Array Value, olds.toArray ++ (news.toArray ++ Z) = (olds ++ news).toArray ++ Z := fun Z => by apply Array.ext'; simp
 rw [hE]
theorem run_copy_gen {dT sT ty e : TypeId} {i : TypeInfo} (ht : P.underlying dT = some (.slice e)) (hi : P.info? e = some i)
  {A B : Option Addr} {n c m c2 : Nat} {cs : List Value} (hl : cs.length = Nat.min m n * i.size) (hr : RdS w B cs) (h1 : One cs) (hw : Room w A 0 cs.length) :
  (Builtin.copy_ #[dT, sT] ty #[.slice A n c, .slice B m c2]).run P w = .ok (.int .i64 (Nat.min m n : Nat)) (puts w A 0 cs) := by
 have hfc := run_firstCells_rd (P := P) (len := m) (cap := c2) hl hr
 have hst := run_storeCells_puts (P := P) h1 hw
 cases A with
 | none => simp [Builtin.copy_, run_underlying ht, sizeOf, typeInfo, hi, Builtin.lenOf, hfc, puts, goInt]
 | some a =>
  have : a.add 0 = a := rfl
  simp only [this] at hst
  simp [Builtin.copy_, run_underlying ht, sizeOf, typeInfo, hi, Builtin.lenOf, hfc, hst, goInt]
end
/-! ### the operations -/
section
variable {P : Program} {ops : Array Oper} {K : Act → World → Prop} {o : Oper} {a : Act} {w : World} {Q : Exit → Act → World → Prop}
def valueOf (s : Sem Value) : Sem Next := do pure (.value (← s))
def unitOf (s : Sem Unit) : Sem Next := do s; pure .skip
theorem run_valueOf {s : Sem Value} {w w' : World} {v : Value} (h : s.run P w = .ok v w') : (valueOf s).run P w = .ok (.value v) w' := by
 simp [valueOf, h]
theorem run_unitOf {s : Sem Unit} {w w' : World} (h : s.run P w = .ok () w') : (unitOf s).run P w = .ok .skip w' := by
 simp [unitOf, h]
/-- Any operation, by its own run. -/
theorem op_sem {s : Sem Value} {v : Value} {w' : World} (hg : Region.wanted o (yielded ops a.tmps) = true) (he : execOp a.eval o = valueOf s) (hr : s.run P w = .ok v w')
  (h : K (a.put o.dst v) w') : OpTo P ops o K Q a w :=
 op_val hg (by rw [he]; exact run_valueOf hr) h
theorem op_semu {s : Sem Unit} {w' : World} (hg : Region.wanted o (yielded ops a.tmps) = true) (he : execOp a.eval o = unitOf s) (hr : s.run P w = .ok () w')
  (h : K (a.put o.dst undef) w') : OpTo P ops o K Q a w :=
 op_unit hg (by rw [he]; exact run_unitOf hr) h
theorem run_load1 {t : TypeId} {b off : Nat} {v : Value} (ht : ∀ w, (isAgg t).run P w = .ok false w) (hc : w.cell? ⟨b, off, none⟩ = some v) :
  (Instr.loadAt t (.pointer (some ⟨b, off, none⟩))).run P w = .ok v w := by
 simp [Instr.loadAt, Instr.sureAddr, loadVar, ht, hc]
theorem run_loadN {t : TypeId} {b off n : Nat} {cs : List Value} (ht : ∀ w, (isAgg t).run P w = .ok true w) (hs : ∀ w, (sizeOf t).run P w = .ok n w) (hl : cs.length = n) (hc : w.rangeAt b off cs) :
  (Instr.loadAt t (.pointer (some ⟨b, off, none⟩))).run P w = .ok (.agg cs.toArray) w := by
 have hl' : (loadCells ⟨b, off, none⟩ cs.length).run P w = .ok cs.toArray w :=
  run_loadCells_list (P := P) w ⟨b, off, none⟩ cs (fun j v hv => by rw [Addr.add_mid]; exact hc j v hv)
 simp [Instr.loadAt, Instr.sureAddr, loadVar, ht, hs, ← hl, hl']
theorem run_store1 {t : TypeId} {b off : Nat} {v : Value} (hs : ∀ w, (sizeOf t).run P w = .ok 1 w) (h1 : v.oneCell' = true) (hc : (w.cell? ⟨b, off, none⟩).isSome = true) (hf : w.frozen? ⟨b, off, none⟩ = false) :
  (Instr.storeAt t (.pointer (some ⟨b, off, none⟩)) v).run P w = .ok () (w.setCell ⟨b, off, none⟩ v) := by
 have hcs : v.cells = #[v] := by cases v <;> first | rfl | (simp [Value.oneCell'] at h1)
 have := run_storeCells_cells (P := P) b off [v] 0 w (fun j hj => by simp at hj; subst hj; simpa using hc) (fun j hj => by simp at hj; subst hj; simpa using hf) (fun u hu => by simp at hu; subst hu; exact h1)
 simp only [Nat.add_zero, World.setCells] at this
 simp [Instr.storeAt, Instr.sureAddr, storeVar, hs, hcs, this]
theorem run_storeN {t : TypeId} {b off n : Nat} {cs : List Value} (hs : ∀ w, (sizeOf t).run P w = .ok n w) (hl : cs.length = n) (h1 : One cs) (hw : w.there b off n) :
  (Instr.storeAt t (.pointer (some ⟨b, off, none⟩)) (.agg cs.toArray)).run P w = .ok () (w.setCells b off cs) := by
 have := run_storeCells_cells (P := P) b off cs 0 w (fun j hj => by simpa using (hw j (by omega)).1) (fun j hj => by simpa using (hw j (by omega)).2) h1
 simp only [Nat.add_zero] at this
 simp [Instr.storeAt, Instr.sureAddr, storeVar, hs, Value.cells, hl, this]
theorem op_load {t : TypeId} {x : Operand} {b off : Nat} {v : Value} (hop : o.op = .load t x) (hg : Region.wanted o (yielded ops a.tmps) = true)
  (hx : a.eval x = .pointer (some ⟨b, off, none⟩)) (ht : ∀ w, (isAgg t).run P w = .ok false w) (hc : w.cell? ⟨b, off, none⟩ = some v)
  (h : K (a.put o.dst v) w) : OpTo P ops o K Q a w :=
 op_sem (s := Instr.loadAt t (.pointer (some ⟨b, off, none⟩))) hg (by unfold execOp; simp only [hop, hx]; rfl) (run_load1 ht hc) h
-- short
theorem qap {t : TypeId} {x : Operand} {b off : Nat} {v : Value} (hop : o.op = .load t x) (ht : ∀ w, (isAgg t).run P w = .ok false w) (hc : w.cell? ⟨b, off, none⟩ = some v) (h : K (a.put o.dst v) w) (hg : Region.wanted o (yielded ops a.tmps) = true := by kernel_rfl) (hx : a.eval x = .pointer (some ⟨b, off, none⟩) := by kernel_rfl) : OpTo P ops o K Q a w := op_load hop hg hx ht hc h
-- /short
theorem op_loadN {t : TypeId} {x : Operand} {b off n : Nat} {cs : List Value} (hop : o.op = .load t x) (hg : Region.wanted o (yielded ops a.tmps) = true)
  (hx : a.eval x = .pointer (some ⟨b, off, none⟩)) (ht : ∀ w, (isAgg t).run P w = .ok true w) (hs : ∀ w, (sizeOf t).run P w = .ok n w) (hl : cs.length = n) (hc : w.rangeAt b off cs)
  (h : K (a.put o.dst (.agg cs.toArray)) w) : OpTo P ops o K Q a w :=
 op_sem (s := Instr.loadAt t (.pointer (some ⟨b, off, none⟩))) hg (by unfold execOp; simp only [hop, hx]; rfl) (run_loadN ht hs hl hc) h
-- short
theorem qaq {t : TypeId} {x : Operand} {b off n : Nat} {cs : List Value} (hop : o.op = .load t x) (ht : ∀ w, (isAgg t).run P w = .ok true w) (hs : ∀ w, (sizeOf t).run P w = .ok n w) (hl : cs.length = n) (hc : w.rangeAt b off cs) (h : K (a.put o.dst (.agg cs.toArray)) w) (hg : Region.wanted o (yielded ops a.tmps) = true := by kernel_rfl) (hx : a.eval x = .pointer (some ⟨b, off, none⟩) := by kernel_rfl) : OpTo P ops o K Q a w := op_loadN hop hg hx ht hs hl hc h
-- /short
theorem op_store {t : TypeId} {x y : Operand} {b off : Nat} {v : Value} (hop : o.op = .store t x y) (hg : Region.wanted o (yielded ops a.tmps) = true)
  (hx : a.eval x = .pointer (some ⟨b, off, none⟩)) (hy : a.eval y = v) (hs : ∀ w, (sizeOf t).run P w = .ok 1 w) (h1 : v.oneCell' = true)
  (hc : (w.cell? ⟨b, off, none⟩).isSome = true) (hf : w.frozen? ⟨b, off, none⟩ = false)
  (h : ∀ w', w' = w.setCell ⟨b, off, none⟩ v → K (a.put o.dst undef) w') : OpTo P ops o K Q a w :=
 op_semu (s := Instr.storeAt t (.pointer (some ⟨b, off, none⟩)) v) hg (by unfold execOp; simp only [hop, hx, hy]; rfl) (run_store1 hs h1 hc hf) (h _ rfl)
-- short
theorem qbc {t : TypeId} {x y : Operand} {b off : Nat} {v : Value} (hop : o.op = .store t x y) (hs : ∀ w, (sizeOf t).run P w = .ok 1 w) (h1 : v.oneCell' = true) (hc : (w.cell? ⟨b, off, none⟩).isSome = true) (hf : w.frozen? ⟨b, off, none⟩ = false) (h : ∀ w', w' = w.setCell ⟨b, off, none⟩ v → K (a.put o.dst undef) w') (hg : Region.wanted o (yielded ops a.tmps) = true := by kernel_rfl) (hx : a.eval x = .pointer (some ⟨b, off, none⟩) := by kernel_rfl) (hy : a.eval y = v := by kernel_rfl) : OpTo P ops o K Q a w := op_store hop hg hx hy hs h1 hc hf h
-- /short
theorem op_storeN {t : TypeId} {x y : Operand} {b off n : Nat} {cs : List Value} (hop : o.op = .store t x y) (hg : Region.wanted o (yielded ops a.tmps) = true)
  (hx : a.eval x = .pointer (some ⟨b, off, none⟩)) (hy : a.eval y = .agg cs.toArray) (hs : ∀ w, (sizeOf t).run P w = .ok n w) (hl : cs.length = n) (h1 : One cs)
  (hw : w.there b off n)
  (h : ∀ w', w' = w.setCells b off cs → K (a.put o.dst undef) w') : OpTo P ops o K Q a w :=
 op_semu (s := Instr.storeAt t (.pointer (some ⟨b, off, none⟩)) (.agg cs.toArray)) hg (by unfold execOp; simp only [hop, hx, hy]; rfl) (run_storeN hs hl h1 hw) (h _ rfl)
-- short
theorem qbd {t : TypeId} {x y : Operand} {b off n : Nat} {cs : List Value} (hop : o.op = .store t x y) (hs : ∀ w, (sizeOf t).run P w = .ok n w) (hl : cs.length = n) (h1 : One cs) (hw : w.there b off n) (h : ∀ w', w' = w.setCells b off cs → K (a.put o.dst undef) w') (hg : Region.wanted o (yielded ops a.tmps) = true := by kernel_rfl) (hx : a.eval x = .pointer (some ⟨b, off, none⟩) := by kernel_rfl) (hy : a.eval y = .agg cs.toArray := by kernel_rfl) : OpTo P ops o K Q a w := op_storeN hop hg hx hy hs hl h1 hw h
-- /short
theorem op_alloc {t : TypeId} {z : Value} (hop : o.op = .alloc t) (hg : Region.wanted o (yielded ops a.tmps) = true) (hz : ∀ w, (zeroValue t).run P w = .ok z w)
  (h : ∀ g w', g = w.heap.size → w' = w.alloc (.cells z.cells t) → K (a.put o.dst (.pointer (some ⟨g, 0, none⟩))) w') : OpTo P ops o K Q a w :=
 op_sem (s := Instr.alloc t true (.tuple #[])) hg (by unfold execOp; simp only [hop]; rfl) (by simp [Instr.alloc, hz, newVar, newRow]) (h _ _ rfl rfl)
-- short
theorem qac {t : TypeId} {z : Value} (hop : o.op = .alloc t) (hz : ∀ w, (zeroValue t).run P w = .ok z w) (h : ∀ g w', g = w.heap.size → w' = w.alloc (.cells z.cells t) → K (a.put o.dst (.pointer (some ⟨g, 0, none⟩))) w') (hg : Region.wanted o (yielded ops a.tmps) = true := by kernel_rfl) : OpTo P ops o K Q a w := op_alloc hop hg hz h
-- /short
theorem op_box {t : TypeId} {x : Operand} {v : Value} (hop : o.op = .box t x) (hg : Region.wanted o (yielded ops a.tmps) = true) (hx : a.eval x = v)
  (h : ∀ g w', g = w.heap.size → w' = w.alloc (.cells v.cells t) → K (a.put o.dst (.pointer (some ⟨g, 0, none⟩))) w') : OpTo P ops o K Q a w :=
 op_sem (s := Instr.box t v) hg (by unfold execOp; simp only [hop, hx]; rfl) (by simp [Instr.box, newVar, newRow]) (h _ _ rfl rfl)
-- short
theorem qaf {t : TypeId} {x : Operand} {v : Value} (hop : o.op = .box t x) (h : ∀ g w', g = w.heap.size → w' = w.alloc (.cells v.cells t) → K (a.put o.dst (.pointer (some ⟨g, 0, none⟩))) w') (hg : Region.wanted o (yielded ops a.tmps) = true := by kernel_rfl) (hx : a.eval x = v := by kernel_rfl) : OpTo P ops o K Q a w := op_box hop hg hx h
-- /short
theorem op_make {t e : TypeId} {x y : Operand} {i : TypeInfo} {z : Value} {kl kc : IntKind} {l c : Int} (hop : o.op = .makeSlice t x y) (hg : Region.wanted o (yielded ops a.tmps) = true)
  (hx : a.eval x = .int kl l) (hy : a.eval y = .int kc c) (ht : P.underlying t = some (.slice e)) (hi : ∀ w, (typeInfo e).run P w = .ok i w) (hz : i.zero = some z)
  (h0 : 0 ≤ l) (hlc : l ≤ c) (hb : 0 < i.bytes) (hbytes : (i.bytes : Int) * c ≤ 281474976710656)
  (h : ∀ g w', g = w.heap.size → w' = w.alloc (.cells (madeCells z.cells (c.toNat * i.size)) e) → K (a.put o.dst (.slice (some ⟨g, 0, none⟩) l.toNat c.toNat)) w') : OpTo P ops o K Q a w :=
 op_sem (s := Instr.makeSlice t (.int kl l) (.int kc c)) hg (by unfold execOp; simp only [hop, hx, hy]; rfl)
  (run_make w t e i z ht (info_of_run hi) hz kl kc l c h0 hlc hbytes (by
   have h1 : (1 : Int) * c ≤ (i.bytes : Int) * c := Int.mul_le_mul_of_nonneg_right (by omega) (by omega)
   omega)) (h _ _ rfl rfl)
-- short
theorem qas {t e : TypeId} {x y : Operand} {i : TypeInfo} {z : Value} {kl kc : IntKind} {l c : Int} (hop : o.op = .makeSlice t x y) (ht : P.underlying t = some (.slice e)) (hi : ∀ w, (typeInfo e).run P w = .ok i w) (hz : i.zero = some z) (h0 : 0 ≤ l) (hlc : l ≤ c) (hb : 0 < i.bytes) (hbytes : (i.bytes : Int) * c ≤ 281474976710656) (h : ∀ g w', g = w.heap.size → w' = w.alloc (.cells (madeCells z.cells (c.toNat * i.size)) e) → K (a.put o.dst (.slice (some ⟨g, 0, none⟩) l.toNat c.toNat)) w') (hg : Region.wanted o (yielded ops a.tmps) = true := by kernel_rfl) (hx : a.eval x = .int kl l := by kernel_rfl) (hy : a.eval y = .int kc c := by kernel_rfl) : OpTo P ops o K Q a w := op_make hop hg hx hy ht hi hz h0 hlc hb hbytes h
-- /short
theorem op_append {t tx e e2 : TypeId} {x y : Operand} {i : TypeInfo} {z : Value} {A B : Option Addr} {n c m c2 : Nat} {olds news : List Value}
  (hop : o.op = .call { callee := .builtin .append, args := #[x, y], argTypes := #[t, tx] }) (hg : Region.wanted o (yielded ops a.tmps) = true)
  (hx : a.eval x = .slice A n c) (hy : a.eval y = .slice B m c2) (ht : P.underlying t = some (.slice e)) (htx : P.underlying tx = some (.slice e2))
  (hi : ∀ w, (typeInfo e).run P w = .ok i w) (hz : i.zero = some z) (hby : 0 < i.bytes)
  (hbytes : (n + m) * i.bytes ≤ 140737488355328)
  (hlo : olds.length = n * i.size) (holds : RdS w A olds) (hl : news.length = m * i.size) (hnews : RdS w B news) (h1 : One news)
  (hroom : n + m ≤ c → Room w A (n * i.size) (m * i.size))
  (h : ∀ A' c' w', Appended w e i.size z.cells A n c m olds news A' c' w' → K (a.put o.dst (.slice A' (n + m) c')) w') : OpTo P ops o K Q a w := by
 have he : execOp a.eval o = valueOf (Builtin.append_ #[t, tx] o.type #[.slice A n c, .slice B m c2]) := by
  unfold execOp; simp only [hop]
  show (do let d ← resolve a.eval _ o.type; invoke d.target d.args) = _
  simp only [resolve, List.map_toArray, List.map_cons, List.map_nil, hx, hy]
  rfl
 rcases Nat.lt_or_ge c (n + m) with hlt | hge
 ·obtain ⟨cap, hc1, hc2, hr⟩ := run_append_new (P := P) (ty := o.type) (c2 := c2) ht htx (info_of_run hi) hz hlo holds hl hnews hlt hby hbytes
  exact op_sem hg he hr (h _ _ _ (.inr ⟨hlt, hc1, hc2, rfl, rfl⟩))
 ·exact op_sem hg he (run_append_fit (P := P) ht htx (info_of_run hi) hl hnews h1 hge (by rw [hl]; exact hroom hge)) (h _ _ _ (.inl ⟨hge, rfl, rfl, rfl⟩))
-- short
theorem qad {t tx e e2 : TypeId} {x y : Operand} {i : TypeInfo} {z : Value} {A B : Option Addr} {n c m c2 : Nat} {olds news : List Value} (hop : o.op = .call { callee := .builtin .append, args := #[x, y], argTypes := #[t, tx] }) (ht : P.underlying t = some (.slice e)) (htx : P.underlying tx = some (.slice e2)) (hi : ∀ w, (typeInfo e).run P w = .ok i w) (hz : i.zero = some z) (hby : 0 < i.bytes) (hbytes : (n + m) * i.bytes ≤ 140737488355328) (hlo : olds.length = n * i.size) (holds : RdS w A olds) (hl : news.length = m * i.size) (hnews : RdS w B news) (h1 : One news) (hroom : n + m ≤ c → Room w A (n * i.size) (m * i.size)) (h : ∀ A' c' w', Appended w e i.size z.cells A n c m olds news A' c' w' → K (a.put o.dst (.slice A' (n + m) c')) w') (hg : Region.wanted o (yielded ops a.tmps) = true := by kernel_rfl) (hx : a.eval x = .slice A n c := by kernel_rfl) (hy : a.eval y = .slice B m c2 := by kernel_rfl) : OpTo P ops o K Q a w := op_append hop hg hx hy ht htx hi hz hby hbytes hlo holds hl hnews h1 hroom h
-- /short
theorem op_copy {dT sT e : TypeId} {x y : Operand} {i : TypeInfo} {A B : Option Addr} {n c m c2 : Nat} {cs : List Value}
  (hop : o.op = .call { callee := .builtin .copy, args := #[x, y], argTypes := #[dT, sT] }) (hg : Region.wanted o (yielded ops a.tmps) = true)
  (hx : a.eval x = .slice A n c) (hy : a.eval y = .slice B m c2) (ht : P.underlying dT = some (.slice e))
  (hi : ∀ w, (typeInfo e).run P w = .ok i w) (hl : cs.length = Nat.min m n * i.size) (hr : RdS w B cs) (h1 : One cs) (hw : Room w A 0 cs.length)
  (h : ∀ w', w' = puts w A 0 cs → K (a.put o.dst (.int .i64 (Nat.min m n : Nat))) w') : OpTo P ops o K Q a w := by
 have he : execOp a.eval o = valueOf (Builtin.copy_ #[dT, sT] o.type #[.slice A n c, .slice B m c2]) := by
  unfold execOp; simp only [hop]
  show (do let d ← resolve a.eval _ o.type; invoke d.target d.args) = _
  simp only [resolve, List.map_toArray, List.map_cons, List.map_nil, hx, hy]
  rfl
 exact op_sem hg he (run_copy_gen (P := P) ht (info_of_run hi) hl hr h1 hw) (h _ rfl)
-- short
theorem qal {dT sT e : TypeId} {x y : Operand} {i : TypeInfo} {A B : Option Addr} {n c m c2 : Nat} {cs : List Value} (hop : o.op = .call { callee := .builtin .copy, args := #[x, y], argTypes := #[dT, sT] }) (ht : P.underlying dT = some (.slice e)) (hi : ∀ w, (typeInfo e).run P w = .ok i w) (hl : cs.length = Nat.min m n * i.size) (hr : RdS w B cs) (h1 : One cs) (hw : Room w A 0 cs.length) (h : ∀ w', w' = puts w A 0 cs → K (a.put o.dst (.int .i64 (Nat.min m n : Nat))) w') (hg : Region.wanted o (yielded ops a.tmps) = true := by kernel_rfl) (hx : a.eval x = .slice A n c := by kernel_rfl) (hy : a.eval y = .slice B m c2 := by kernel_rfl) : OpTo P ops o K Q a w := op_copy hop hg hx hy ht hi hl hr h1 hw h
-- /short
theorem run_index_slice {t e : TypeId} {b off n c size : Nat} {k : IntKind} {j : Int} (ht : P.underlying t = some (.slice e)) (hs : ∀ w, (sizeOf e).run P w = .ok size w) (h0 : 0 ≤ j) (h1 : j < n) :
  (Instr.indexAt t (.slice (some ⟨b, off, none⟩) n c) (.int k j)).run P w = .ok (.pointer (some ⟨b, off + j.toNat * size, none⟩)) w := by
 simp [Instr.indexAt, asIntOf, run_underlying ht, h0, h1, hs, Addr.add_mid]
theorem run_index_array {t e : TypeId} {b off n size : Nat} {k : IntKind} {j : Int} (ht : P.underlying t = some (.array n e)) (hs : ∀ w, (sizeOf e).run P w = .ok size w) (h0 : 0 ≤ j) (h1 : j < n) :
  (Instr.indexAt t (.pointer (some ⟨b, off, none⟩)) (.int k j)).run P w = .ok (.pointer (some ⟨b, off + j.toNat * size, none⟩)) w := by
 simp [Instr.indexAt, Instr.sureAddr, asIntOf, run_underlying ht, h0, h1, hs, Addr.add_mid]
theorem op_index {t e : TypeId} {x y : Operand} {b off n c size : Nat} {k : IntKind} {j : Int} (hop : o.op = .indexAddr t x y) (hg : Region.wanted o (yielded ops a.tmps) = true)
  (hx : a.eval x = .slice (some ⟨b, off, none⟩) n c) (hy : a.eval y = .int k j) (ht : P.underlying t = some (.slice e)) (hs : ∀ w, (sizeOf e).run P w = .ok size w) (h0 : 0 ≤ j) (h1 : j < n)
  (h : K (a.put o.dst (.pointer (some ⟨b, off + j.toNat * size, none⟩))) w) : OpTo P ops o K Q a w :=
 op_sem (s := Instr.indexAt t (.slice (some ⟨b, off, none⟩) n c) (.int k j)) hg (by unfold execOp; simp only [hop, hx, hy]; rfl) (run_index_slice ht hs h0 h1) h
-- short
theorem qan {t e : TypeId} {x y : Operand} {b off n c size : Nat} {k : IntKind} {j : Int} (hop : o.op = .indexAddr t x y) (ht : P.underlying t = some (.slice e)) (hs : ∀ w, (sizeOf e).run P w = .ok size w) (h0 : 0 ≤ j) (h1 : j < n) (h : K (a.put o.dst (.pointer (some ⟨b, off + j.toNat * size, none⟩))) w) (hg : Region.wanted o (yielded ops a.tmps) = true := by kernel_rfl) (hx : a.eval x = .slice (some ⟨b, off, none⟩) n c := by kernel_rfl) (hy : a.eval y = .int k j := by kernel_rfl) : OpTo P ops o K Q a w := op_index hop hg hx hy ht hs h0 h1 h
-- /short
theorem op_indexA {t e : TypeId} {x y : Operand} {b off n size : Nat} {k : IntKind} {j : Int} (hop : o.op = .indexAddr t x y) (hg : Region.wanted o (yielded ops a.tmps) = true)
  (hx : a.eval x = .pointer (some ⟨b, off, none⟩)) (hy : a.eval y = .int k j) (ht : P.underlying t = some (.array n e)) (hs : ∀ w, (sizeOf e).run P w = .ok size w) (h0 : 0 ≤ j) (h1 : j < n)
  (h : K (a.put o.dst (.pointer (some ⟨b, off + j.toNat * size, none⟩))) w) : OpTo P ops o K Q a w :=
 op_sem (s := Instr.indexAt t (.pointer (some ⟨b, off, none⟩)) (.int k j)) hg (by unfold execOp; simp only [hop, hx, hy]; rfl) (run_index_array ht hs h0 h1) h
-- short
theorem qao {t e : TypeId} {x y : Operand} {b off n size : Nat} {k : IntKind} {j : Int} (hop : o.op = .indexAddr t x y) (ht : P.underlying t = some (.array n e)) (hs : ∀ w, (sizeOf e).run P w = .ok size w) (h0 : 0 ≤ j) (h1 : j < n) (h : K (a.put o.dst (.pointer (some ⟨b, off + j.toNat * size, none⟩))) w) (hg : Region.wanted o (yielded ops a.tmps) = true := by kernel_rfl) (hx : a.eval x = .pointer (some ⟨b, off, none⟩) := by kernel_rfl) (hy : a.eval y = .int k j := by kernel_rfl) : OpTo P ops o K Q a w := op_indexA hop hg hx hy ht hs h0 h1 h
-- /short
/-- nil checks by '==' and '!='. -/
theorem run_eq_ptr_nil {t e : TypeId} {p : Option Addr} (ht : P.underlying t = some (.pointer e)) : (Op.equal t (.pointer p) (.pointer none)).run P w = .ok p.isNone w := by
 show (Op.equalIn (9999 + 1) t _ _).run P w = _
 rw [Op.equalIn]
 cases p <;> simp [run_underlying ht]
theorem run_eq_slice_nil {t e : TypeId} {A : Option Addr} {n c : Nat} (ht : P.underlying t = some (.slice e)) : (Op.equal t (.slice A n c) (.slice none 0 0)).run P w = .ok A.isNone w := by
 show (Op.equalIn (9999 + 1) t _ _).run P w = _
 rw [Op.equalIn]
 cases A <;> simp [run_underlying ht]
theorem op_ne_ptr_nil {t t2 e : TypeId} {x y : Operand} {p : Option Addr} (hop : o.op = .binOp .neq t x y t2) (hg : Region.wanted o (yielded ops a.tmps) = true)
  (hx : a.eval x = .pointer p) (hy : a.eval y = .pointer none) (ht : P.underlying t = some (.pointer e))
  (h : K (a.put o.dst (.bool (!p.isNone))) w) : OpTo P ops o K Q a w :=
 op_sem (s := do eqGuard .neq t x y (.pointer p) (.pointer none); binOp .neq t (.pointer p) (.pointer none)) hg (by unfold execOp; simp only [hop, hx, hy]; rfl)
  (by simp [eqGuard, binOp, run_eq_ptr_nil ht]) h
-- short
theorem qav {t t2 e : TypeId} {x y : Operand} {p : Option Addr} (hop : o.op = .binOp .neq t x y t2) (ht : P.underlying t = some (.pointer e)) (h : K (a.put o.dst (.bool (!p.isNone))) w) (hg : Region.wanted o (yielded ops a.tmps) = true := by kernel_rfl) (hx : a.eval x = .pointer p := by kernel_rfl) (hy : a.eval y = .pointer none := by kernel_rfl) : OpTo P ops o K Q a w := op_ne_ptr_nil hop hg hx hy ht h
-- /short
theorem op_eq_slice_nil {t t2 e : TypeId} {x y : Operand} {A : Option Addr} {n c : Nat} (hop : o.op = .binOp .eql t x y t2) (hg : Region.wanted o (yielded ops a.tmps) = true)
  (hx : a.eval x = .slice A n c) (hy : a.eval y = .slice none 0 0) (ht : P.underlying t = some (.slice e))
  (h : K (a.put o.dst (.bool A.isNone)) w) : OpTo P ops o K Q a w :=
 op_sem (s := do eqGuard .eql t x y (.slice A n c) (.slice none 0 0); binOp .eql t (.slice A n c) (.slice none 0 0)) hg (by unfold execOp; simp only [hop, hx, hy]; rfl)
  (by simp [eqGuard, binOp, run_eq_slice_nil ht]) h
-- short
theorem qam {t t2 e : TypeId} {x y : Operand} {A : Option Addr} {n c : Nat} (hop : o.op = .binOp .eql t x y t2) (ht : P.underlying t = some (.slice e)) (h : K (a.put o.dst (.bool A.isNone)) w) (hg : Region.wanted o (yielded ops a.tmps) = true := by kernel_rfl) (hx : a.eval x = .slice A n c := by kernel_rfl) (hy : a.eval y = .slice none 0 0 := by kernel_rfl) : OpTo P ops o K Q a w := op_eq_slice_nil hop hg hx hy ht h
/-- The slot of an operation that is called with the address of an Go function. -/
theorem op_callf {f : FuncId} {args : Array Value} {xs : Array Operand} {ts : Array TypeId} (hop : o.op = .call { callee := .value (.func f), args := xs, argTypes := ts })
  (hg : Region.wanted o (yielded ops a.tmps) = true) (ha : xs.map a.eval = args) (hf : ∀ args w, (callFunc f args).run P w = .ok (.enter f args) w)
  (h : Ret P f args w fun v w' => K (a.put o.dst v) w') : OpTo P ops o K Q a w := by
 refine op_call (f := f) (args := args) (w' := w) hg ?_ h
 unfold execOp
 simp only [hop]
 simp [resolve, Act.eval, Deferred.ofValue, invoke, ha, hf]
-- short
theorem qai {f : FuncId} {args : Array Value} {xs : Array Operand} {ts : Array TypeId} (hop : o.op = .call { callee := .value (.func f), args := xs, argTypes := ts }) (hf : ∀ args w, (callFunc f args).run P w = .ok (.enter f args) w) (h : Ret P f args w fun v w' => K (a.put o.dst v) w') (hg : Region.wanted o (yielded ops a.tmps) = true := by kernel_rfl) (ha : xs.map a.eval = args := by kernel_rfl) : OpTo P ops o K Q a w := op_callf hop hg ha hf h
-- /short
end
end Go.Proofs.YtpkfdhlkknanmaaGreat
