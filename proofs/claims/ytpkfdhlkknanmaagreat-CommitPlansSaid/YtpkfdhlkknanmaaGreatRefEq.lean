/-
 A reference equals itself, by the model's own run.
-/
import Derived.Test.YtpkfdhlkknanmaaGreatPlan7
import Derived.ChangeKeysEq
set_option linter.all false
namespace Go.Proofs.YtpkfdhlkknanmaaGreat
open Go Go.RowKit Go.Proofs
theorem run_part_int {P : Program} {w : World} {e : TypeId} {k : IntKind} (he : P.underlying e = some (.int k)) {xs : Array Value} {o : Nat} {v : Value} (h : xs[o]? = some v) : (part e xs o).run P w = .ok v w := by
 simp [part, isAgg, run_underlying he, h]
theorem eqItems_self {P : Program} {w : World} (d : Nat) {e : TypeId} {k : IntKind} {c : Nat} (he : P.underlying e = some (.int k)) {xs : Array Value} : ∀ is : List Nat, (∀ i ∈ is, ∃ q x, xs[i * c]? = some (.int q x)) → (Op.eqItems (d + 1) e c xs xs is).run P w = .ok true w
 | [], _ => by simp [Op.eqItems]
 | i :: is, h => by
  obtain ⟨q, x, hx⟩ := h i (List.mem_cons_self ..)
  have hp : (part e xs (i * c)).run P w = .ok (.int q x) w := run_part_int he hx
  have he2 : (Op.equalIn (d + 1) e (.int q x) (.int q x)).run P w = .ok true w := by
   rw [run_equalIn_int w d e q k x x he]; simp
  simp only [Op.eqItems, Sem.run_bind, hp, he2, Result.andThen_ok]
  simpa using eqItems_self d he is fun j hj => h j (List.mem_cons_of_mem _ hj)
theorem eqFields_cons {P : Program} {w : World} {d : Nat} {xs : Array Value} {f : Field} {fs : List Field} {a : Value} (hn : f.name ≠ "_") (ha : (part f.type xs f.offset).run P w = .ok a w) (he : (Op.equalIn d f.type a a).run P w = .ok true w) :
  (Op.eqFields d xs xs (f :: fs)).run P w = (Op.eqFields d xs xs fs).run P w := by
 rw [Op.eqFields, if_pos hn]
 simp only [Sem.run_bind, ha, he, Result.andThen_ok]
 simp
section
variable {W : World} {r : Rf}
theorem ref_fields : Tryz.prog.underlying 25 = some (.struct (Tryz.prog.fieldsOf 25)) := by
 unfold Program.fieldsOf
 rw [Tryz.underlying25]
theorem ref_held : Tryz.prog.stoodInHeld 25 = false := by kernel_rfl
theorem ref_part0 (r : Rf) : (part 3 r.cells.toArray 0).run Tryz.prog W = .ok (.int .i64 r.p) W := run_part_int Tryz.underlying3 rfl
theorem ref_part1 (r : Rf) : (part 23 r.cells.toArray 1).run Tryz.prog W = .ok (.int .u32 r.e) W := run_part_int Tryz.underlying23 rfl
theorem ref_part2 (hr : r.Ok) : (part 22 r.cells.toArray 2).run Tryz.prog W = .ok (.agg (By r.d).toArray) W := by
 have hex : r.cells.toArray.extract 2 (2 + 32) = (By r.d).toArray := by
  apply Array.ext'
  have hl : (By r.d).length = 32 := by simp [hr.len]
  have hc : r.cells = ([.int .i64 r.p, .int .u32 r.e] : List Value) ++ By r.d := rfl
  rw [hc, Array.toList_extract]
  simp only [List.extract_eq_take_drop]
  have h2 : List.drop 2 (([.int .i64 r.p, .int .u32 r.e] : List Value) ++ By r.d) = By r.d := rfl
  rw [h2, List.take_of_length_le (by omega)]
 simp only [part, Sem.run_bind, Tryz.isAgg22, Tryz.sizeOf22, Result.andThen_ok, if_true, Sem.run_pure, hex]
theorem ref_eq0 (d : Nat) (r : Rf) : (Op.equalIn (d + 1) 3 (.int .i64 r.p) (.int .i64 r.p)).run Tryz.prog W = .ok true W := by
 rw [run_equalIn_int W d _ .i64 .i64 _ _ Tryz.underlying3]; simp
theorem ref_eq1 (d : Nat) (r : Rf) : (Op.equalIn (d + 1) 23 (.int .u32 r.e) (.int .u32 r.e)).run Tryz.prog W = .ok true W := by
 rw [run_equalIn_int W d _ .u32 .u32 _ _ Tryz.underlying23]; simp
theorem ref_eq2 (d : Nat) (hr : r.Ok) : (Op.equalIn (d + 2) 22 (.agg (By r.d).toArray) (.agg (By r.d).toArray)).run Tryz.prog W = .ok true W := by
 have hi : Tryz.prog.info? 5 = some Tryz.t5 := by kernel_rfl
 rw [run_equalIn_array W (d + 1) _ _ Tryz.underlying22 hi]
 refine eqItems_self d Tryz.underlying5 _ fun i hi => ?_
 have hc : Tryz.prog.cellsOf 5 = 1 := by kernel_rfl
 rw [hc, Nat.mul_one]
 have hlt := List.mem_range.1 hi
 have : i < r.d.length := by rw [hr.len]; exact hlt
 exact ⟨.u8, r.d[i], by rw [List.getElem?_toArray]; exact By_get (List.getElem?_eq_getElem this)⟩
theorem eqIn_ref (d : Nat) (hr : r.Ok) : (Op.equalIn (d + 3) 25 (.agg r.cells.toArray) (.agg r.cells.toArray)).run Tryz.prog W = .ok true W := by
 rw [run_equalIn_struct W (d + 2) _ _ _ ref_fields ref_held]
 unfold Program.fieldsOf
 rw [Tryz.underlying25]
 dsimp only
 refine Eq.trans (eqFields_cons (a := .int .i64 r.p) ?_ ?_ ?_) ?_
 ·decide
 ·exact ref_part0 r
 ·exact ref_eq0 (d + 1) r
 refine Eq.trans (eqFields_cons (a := .int .u32 r.e) ?_ ?_ ?_) ?_
 ·decide
 ·exact ref_part1 r
 ·exact ref_eq1 (d + 1) r
 refine Eq.trans (eqFields_cons (a := .agg (By r.d).toArray) ?_ ?_ ?_) ?_
 ·decide
 ·exact ref_part2 hr
 ·exact ref_eq2 d hr
 simp [Op.eqFields]
theorem eq_ref (hr : r.Ok) : EqRun Tryz.prog W 25 (.agg r.cells.toArray) (.agg r.cells.toArray) true :=
 ⟨fun X Y => ⟨run_eqGuard_agg W .eql 25 X Y _ _ Tryz.eqGuardType25, run_eqGuard_agg W .neq 25 X Y _ _ Tryz.eqGuardType25⟩,
 by rw [run_eql_struct, show (10000 : Nat) = 9997 + 3 from rfl, eqIn_ref 9997 hr]; rfl, by rw [run_neq_struct, show (10000 : Nat) = 9997 + 3 from rfl, eqIn_ref 9997 hr]; rfl⟩
end
end Go.Proofs.YtpkfdhlkknanmaaGreat
