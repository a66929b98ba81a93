/-
 More operations for the printed walks: elements of array values and of strings, conversions between strings and bytes, appends of zeros, maps.
-/
import Derived.Test.YtpkfdhlkknanmaaGreatOpt
import Derived.Lib.ConvBytes
import Derived.Laws.BytesArg
import Derived.Laws.Strings
import Derived.MapKept
set_option linter.all false
namespace Go.Proofs.YtpkfdhlkknanmaaGreat
open Go Go.RowKit
section
variable {P : Program} {ops : Array Oper} {K : Act → World → Prop} {o : Oper} {a : Act} {w : World} {Q : Exit → Act → World → Prop}
theorem y_bin {S : World → Prop} {op : BinOp} {t t2 : TypeId} {x' y' : Operand} {k k2 : IntKind} {x y z : Int} (hop : o.op = .binOp op t x' y' t2) (hg : Region.wanted o (yielded ops a.tmps) = true)
  (hx : a.eval x' = .int k x) (hy : a.eval y' = .int k2 y) (hr : ∀ w, (do eqGuard op t x' y' (.int k x) (.int k2 y); binOp op t (.int k x) (.int k2 y) : Sem Value).run P w = .ok (.int k z) w) : YieldsIf P ops S o (.int k z) a :=
 y_sem (s := do eqGuard op t x' y' (.int k x) (.int k2 y); binOp op t (.int k x) (.int k2 y)) hg (by unfold execOp; simp only [hop, hx, hy]; rfl) fun w _ => hr w
theorem y_shr {S : World → Prop} {t t2 : TypeId} {x' y' : Operand} {k k2 : IntKind} {x y : Int} (hop : o.op = .binOp .shr t x' y' t2) (hg : Region.wanted o (yielded ops a.tmps) = true)
  (hx : a.eval x' = .int k x) (hy : a.eval y' = .int k2 y) (h0 : 0 ≤ y) : YieldsIf P ops S o (.int k (iShr k x y)) a :=
 y_bin hop hg hx hy fun w => by simp [eqGuard, binOp, Op.shift, show ¬ y < 0 by omega, iShr]
-- short
theorem qca {S : World → Prop} {t t2 : TypeId} {x' y' : Operand} {k k2 : IntKind} {x y : Int} (hop : o.op = .binOp .shr t x' y' t2) (h0 : 0 ≤ y) (hg : Region.wanted o (yielded ops a.tmps) = true := by kernel_rfl) (hx : a.eval x' = .int k x := by kernel_rfl) (hy : a.eval y' = .int k2 y := by kernel_rfl) : YieldsIf P ops S o (.int k (iShr k x y)) a := y_shr hop hg hx hy h0
/-! ### an append of zeros -/
theorem zeroCells_one (z : Value) (n : Nat) : (Builtin.zeroCells #[z] n).toList = List.replicate n z := by
 apply List.ext_getElem?
 intro i
 have hm : ∀ k : Nat, (#[z] : Array Value)[k % (#[z] : Array Value).size]! = z := fun k => by
  have : k % (#[z] : Array Value).size = 0 := Nat.mod_one k
  rw [this]; rfl
 unfold Builtin.zeroCells
 simp only [hm]
 rw [Array.toList_map, List.map_const', Array.toList_range, List.length_range]
 simp
theorem zeroCells_arr (z : Value) (n : Nat) : Builtin.zeroCells #[z] n = (List.replicate n z).toArray := by
 apply Array.ext'
 rw [zeroCells_one]
theorem wrap_of_small {m : Int} (h0 : 0 ≤ m) (h1 : m < 9223372036854775808) : IntKind.i64.wrap m = m := by
 rw [IntKind.wrap_i64]; omega
theorem One_replicate {z : Value} (h : z.oneCell' = true) (n : Nat) : One (List.replicate n z) := fun v hv => by
 rw [List.eq_of_mem_replicate hv]; exact h
theorem run_append_zfit {t tx ty e : TypeId} {kx : IntKind} {i : TypeInfo} {z : Value} (ht : P.underlying t = some (.slice e)) (htx : P.underlying tx = some (.int kx)) (hi : P.info? e = some i) (hz : i.zero = some z) (hz1 : z.cells = #[z]) (hs : i.size = 1) (ho : z.oneCell' = true)
  {A : Option Addr} {n c : Nat} {k : IntKind} {m : Int} (hm : 0 ≤ m) (hmb : m * i.bytes ≤ 140737488355328) (hm2 : m < 9223372036854775808)
  (hroom : n + m.toNat ≤ c) (hr : Room w A n m.toNat) :
  (Builtin.append_ #[t, tx] ty #[.slice A n c, .int k m]).run P w = .ok (.slice A (n + m.toNat) c) (puts w A n (List.replicate m.toNat z)) := by
 have hw := wrap_of_small hm hm2
 have hst := run_storeCells_puts (P := P) (w := w) (A := A) (k := n) (One_replicate ho m.toNat) (by simpa using hr)
 have hneg : ¬ (m < 0) := by omega
 have hb : ¬ (281474976710656 < m * i.bytes) := by omega
 by_cases h0 : m.toNat = 0
 ·have hp : puts w A n (List.replicate m.toNat z) = w := by rw [h0]; cases A <;> rfl
  rw [hp]
  have hroom' : n ≤ c := by omega
  cases A with
  | none => simp [Builtin.append_, run_underlying ht, run_underlying htx, sizeOf, typeInfo, hi, asInt, asIntOf, hw, hneg, hb, hroom', h0, hs]
  | some a =>
   simp [Builtin.append_, run_underlying ht, run_underlying htx, sizeOf, typeInfo, hi, asInt, asIntOf, hw, hneg, hb, hroom', h0, hs, storeCells]
 ·cases A with
  | none => simp [Builtin.append_, run_underlying ht, run_underlying htx, sizeOf, typeInfo, hi, asInt, asIntOf, hw, hneg, hb, hroom, h0, hs, zeroValue, hz, puts]
  | some a =>
   simp only at hst
   simp [Builtin.append_, run_underlying ht, run_underlying htx, sizeOf, typeInfo, hi, asInt, asIntOf, hw, hneg, hb, hroom, h0, hs, zeroValue, hz, hz1, zeroCells_one, hst]
theorem run_append_znew {t tx ty e : TypeId} {kx : IntKind} {i : TypeInfo} {z : Value} (ht : P.underlying t = some (.slice e)) (htx : P.underlying tx = some (.int kx)) (hi : P.info? e = some i) (hz : i.zero = some z) (hz1 : z.cells = #[z]) (hs : i.size = 1)
  {A : Option Addr} {n c : Nat} {k : IntKind} {m : Int} {olds : List Value} (hlo : olds.length = n) (holds : RdS w A olds)
  (hm : 0 ≤ m) (hg : c < n + m.toNat) (hby : 0 < i.bytes) (hbytes : (n + m.toNat) * i.bytes ≤ 140737488355328) :
  ∃ cap, n + m.toNat ≤ cap ∧ cap ≤ maxLen ∧ (Builtin.append_ #[t, tx] ty #[.slice A n c, .int k m]).run P w =
   .ok (.slice (some ⟨w.heap.size, 0, none⟩) (n + m.toNat) cap) (w.drew.alloc (.cells ((olds ++ List.replicate m.toNat z).toArray ++ Builtin.zeroCells z.cells (cap - (n + m.toNat))) e)) := by
 obtain ⟨N, rfl⟩ := Int.eq_ofNat_of_zero_le hm
 simp only [Int.toNat_natCast] at hg hbytes ⊢
 have hn63 : n + N ≤ maxLen := by
  have : n + N ≤ (n + N) * i.bytes := Nat.le_mul_of_pos_right _ hby
  simp only [maxLen]; omega
 have hmul : N * i.bytes ≤ (n + N) * i.bytes := Nat.mul_le_mul_right _ (by omega)
 have hw := wrap_of_small hm (by simp only [maxLen] at hn63; omega)
 have hneg : ¬ ((N : Int) < 0) := by omega
 have hb : ¬ (281474976710656 < (N : Int) * i.bytes) := by
  rw [← Int.natCast_mul]; omega
 have hfo := run_firstCells_rd (P := P) (w := w.drew) (size := 1) (n := n) (len := n) (cap := c) (cs := olds) (by omega) (by
  rcases holds with h | ⟨b, o, h, hr⟩
  ·exact .inl h
  ·exact .inr ⟨b, o, h, hr⟩)
 have hfit := growslice_fits hg hbytes
 have hge := grownCap_ge w (n + N) c e
 have hcm : grownCap w (n + N) c e ≤ maxLen := grownCap_le_maxLen w (n + N) c e hn63
 refine ⟨grownCap w (n + N) c e, hge, hcm, ?_⟩
 have h0 : ¬ (n + N ≤ c) := by omega
 have hb0 : i.bytes ≠ 0 := by omega
 have hfit' : ¬ (281474976710656 < Builtin.nextslicecap (n + N) c * i.bytes) := by omega
 have hch : (choose (.appendCap (n + N) c e)).run P w = .ok (grownCap w (n + N) c e) w.drew := rfl
 have hask : ∀ w', (askRoom (grownCap w (n + N) c e * i.bytes)).run P w' = .ok () w' := by
  intro w'; unfold askRoom; split <;> rfl
 have hmx : IntKind.i64.max = 9223372036854775807 := rfl
 have hi63 : ¬ ((9223372036854775807 : Int) < (n : Int) + (N : Int)) := by simp only [maxLen] at hn63; omega
 by_cases hz0 : N = 0
 ·subst hz0
  have hw0 : IntKind.i64.wrap 0 = 0 := rfl
  have h0' : ¬ (n ≤ c) := h0
  have hi' : ¬ ((9223372036854775807 : Int) < (n : Int)) := by omega
  rw [Nat.add_zero] at hfit' hch hask ⊢
  simp [hw0, h0', hi', Builtin.append_, run_underlying ht, run_underlying htx, sizeOf, typeInfo, hi, asInt, asIntOf, hw, hneg, hb, h0, hb0, hfit', hch, hask, hfo, hs, zeroValue, hz, newRow, hmx, hi63]
  rw [if_neg (fun h => Bool.noConfusion h)]
  rfl
 ·simp [Builtin.append_, run_underlying ht, run_underlying htx, sizeOf, typeInfo, hi, asInt, asIntOf, hw, hneg, hb, h0, hb0, hz0, hfit', hch, hask, hfo, hs, zeroValue, hz, hz1, zeroCells_arr, newRow, hmx, hi63]
  rw [if_neg (fun h => Bool.noConfusion h)]
  show Result.ok (Value.slice _ _ (grownCap w (n + N) c e)) (World.alloc _ (.cells (_ ++ Array.replicate (N + (grownCap w (n + N) c e - (n + N))) z) _)) = _
  have hE : ∀ k, olds.toArray ++ Array.replicate (N + k) z = (olds ++ List.replicate N z).toArray ++ Array.replicate k z := fun k => by
   apply Array.ext'; simp [← List.replicate_append_replicate]
  rw [hE]
theorem op_appendZ {t tx e : TypeId} {x y : Operand} {kx : IntKind} {i : TypeInfo} {z : Value} {A : Option Addr} {n c : Nat} {k : IntKind} {m : Int} {olds : List Value}
  (hop : o.op = .call { callee := .builtin .append, args := #[x, y], argTypes := #[t, tx] }) (hg : Region.wanted o (yielded ops a.tmps) = true)
  (hx : a.eval x = .slice A n c) (hy : a.eval y = .int k m) (ht : P.underlying t = some (.slice e)) (htx : P.underlying tx = some (.int kx))
  (hi : ∀ w, (typeInfo e).run P w = .ok i w) (hz : i.zero = some z) (hz1 : z.cells = #[z]) (hs : i.size = 1) (hby : 0 < i.bytes) (ho : z.oneCell' = true)
  (hm : 0 ≤ m) (hbytes : (n + m.toNat) * i.bytes ≤ 140737488355328) (hlo : olds.length = n) (holds : RdS w A olds)
  (hroom : n + m.toNat ≤ c → Room w A n m.toNat)
  (h : ∀ A' c' w', Appended w e 1 #[z] A n c m.toNat olds (List.replicate m.toNat z) A' c' w' → K (a.put o.dst (.slice A' (n + m.toNat) c')) w') : OpTo P ops o K Q a w := by
 have he : execOp a.eval o = valueOf (Builtin.append_ #[t, tx] o.type #[.slice A n c, .int k m]) := by
  unfold execOp; simp only [hop]
  show (do let d ← resolve a.eval _ o.type; invoke d.target d.args) = _
  simp only [resolve, List.map_toArray, List.map_cons, List.map_nil, hx, hy]
  rfl
 have hmul : m.toNat * i.bytes ≤ (n + m.toNat) * i.bytes := Nat.mul_le_mul_right _ (by omega)
 have hcast : m * i.bytes = ((m.toNat * i.bytes : Nat) : Int) := by
  rw [Int.natCast_mul, Int.toNat_of_nonneg hm]
 have hle : m.toNat ≤ m.toNat * i.bytes := Nat.le_mul_of_pos_right _ hby
 rcases Nat.lt_or_ge c (n + m.toNat) with hlt | hge
 ·obtain ⟨cap, hc1, hc2, hr⟩ := run_append_znew (P := P) (ty := o.type) (k := k) ht htx (info_of_run hi) hz hz1 hs hlo holds hm hlt hby hbytes
  exact op_sem hg he hr (h _ _ _ (.inr ⟨hlt, hc1, hc2, rfl, by rw [hz1]⟩))
 ·exact op_sem hg he (run_append_zfit (P := P) ht htx (info_of_run hi) hz hz1 hs ho hm (by omega) (by omega) hge (hroom hge)) (h _ _ _ (.inl ⟨hge, rfl, rfl, by rw [Nat.mul_one]⟩))
-- short
theorem qae {t tx e : TypeId} {x y : Operand} {kx : IntKind} {i : TypeInfo} {z : Value} {A : Option Addr} {n c : Nat} {k : IntKind} {m : Int} {olds : List Value} (hop : o.op = .call { callee := .builtin .append, args := #[x, y], argTypes := #[t, tx] }) (ht : P.underlying t = some (.slice e)) (htx : P.underlying tx = some (.int kx)) (hi : ∀ w, (typeInfo e).run P w = .ok i w) (hz : i.zero = some z) (hz1 : z.cells = #[z]) (hs : i.size = 1) (hby : 0 < i.bytes) (ho : z.oneCell' = true) (hm : 0 ≤ m) (hbytes : (n + m.toNat) * i.bytes ≤ 140737488355328) (hlo : olds.length = n) (holds : RdS w A olds) (hroom : n + m.toNat ≤ c → Room w A n m.toNat) (h : ∀ A' c' w', Appended w e 1 #[z] A n c m.toNat olds (List.replicate m.toNat z) A' c' w' → K (a.put o.dst (.slice A' (n + m.toNat) c')) w') (hg : Region.wanted o (yielded ops a.tmps) = true := by kernel_rfl) (hx : a.eval x = .slice A n c := by kernel_rfl) (hy : a.eval y = .int k m := by kernel_rfl) : OpTo P ops o K Q a w := op_appendZ hop hg hx hy ht htx hi hz hz1 hs hby ho hm hbytes hlo holds hroom h
end
end Go.Proofs.YtpkfdhlkknanmaaGreat
