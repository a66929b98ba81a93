/-
  WHAT IS PROVED: the given statement 'Rows.ImagePlainSaid': for every argument list, 'carling/carlinglaw19.ImagePlain' returns true, and both arguments read behind the call as they read before.
  The walk is theorem 'law_ok' of the text YtccfdbldmnkgcaaGreatPlain5; here the arguments are opened to cells and the answer is shut into the row.
-/
import Derived.Test.YtccfdbldmnkgcaaGreatRows
import Derived.Test.YtccfdbldmnkgcaaGreatPlain5
import Derived.WalkKit
import Derived.ProofKit
import Derived.OpenShut
import Derived.ShutString
import Derived.ChangeOld
import Derived.Below
import Derived.Deep.Slices
import Derived.Deep.Fields
import Derived.ChangeSame
set_option linter.all false
namespace Go.Proofs.YtccfdbldmnkgcaaGreat
namespace RowImagePlain
open Go.ChangeShapes Go.WideShapes Go.ChangeAt Go.RowKit Go.Deep

section
variable {H : Type} {enc : TypeId × Value → H} {P : Program} {w : World} {base : Nat} {spare : Nat → Bool} {held : Bool}
theorem open_slice_fields {t e : TypeId} {fs : Array Field} {fuel : Nat} {cs : List Value} {x : DataW H × List MemPlace} (ht : P.underlying t = some (.slice e)) (he : P.underlying e = some (.struct fs))
    (hone : oneCellFields P fs = true) (hC : P.cellsOf e = fs.size) (h : DataW.trod enc P w base spare held fuel t cs = some x) :
    (cs = [.slice none 0 0] ∧ x = (.nil, [])) ∨
    ∃ (a : Addr) (len cap m : Nat) (D : Nat → DataW H) (Pl : Nat → List MemPlace), cs = [.slice (some a) len cap] ∧ base ≤ a.block ∧ len ≤ cap ∧ cap ≤ maxLen ∧ m = (if spare a.block then cap else len) ∧
      x = (.slice ((List.range len).map D) ((List.range (m - len)).map fun j => D (len + j)), MemPlace.row a (m * fs.size) ++ (List.range m).flatMap Pl) ∧
      ∀ i, i < m → ∃ (ys : List (DataW H × List MemPlace)) (n : Nat), D i = .agg (ys.map (·.1)) ∧ Pl i = ys.flatMap (·.2) ∧ ys.length = fs.size ∧
        ∀ (j : Nat) (f : Field), fs[j]? = some f → ∃ (v : Value) (y : DataW H × List MemPlace), w.cell? (a.add (i * fs.size + j)) = some v ∧ ys[j]? = some y ∧ DataW.trod enc P w base spare held n f.type [v] = some y := by
  rcases open_slice ht h with h0 | ⟨a, len, cap, m, n, D, Pl, hcs, hb, hl, hm, hmm, hx, hi⟩
  · exact .inl h0
  · refine .inr ⟨a, len, cap, m, D, Pl, hcs, hb, hl, hm, hmm, by rw [hC] at hx; exact hx, fun i him => ?_⟩
    obtain ⟨cs', hc, ht'⟩ := hi i him
    rw [hC] at hc
    obtain ⟨ys, n', hn', hy, hlen, hyl, hf⟩ := DataW.trod_struct he ht'
    obtain ⟨_, hcl, hat⟩ := World.cells?_some hc
    simp only [Prod.mk.injEq] at hy
    refine ⟨ys, n', hy.1, hy.2, hyl, fun j f hj => ?_⟩
    obtain ⟨ho, hk⟩ := hone_of hone j f hj
    have hjl : j < fs.size := (Array.getElem?_eq_some_iff.1 hj).1
    have hcell := hat j hjl
    have hv : cs'[j]? = some (cs'[j]'(by omega)) := List.getElem?_eq_getElem (by omega)
    have h1 := hf j f hj
    rw [ho, hk] at h1
    have hone' : (cs'.drop j).take 1 = [cs'[j]'(by omega)] := by
      rw [List.drop_eq_getElem_cons (by omega)]
      rfl
    rw [hone'] at h1
    have hys : ys[j]? = some (ys[j]'(by omega)) := List.getElem?_eq_getElem (by omega)
    refine ⟨_, _, ?_, hys, h1.trans hys⟩
    rw [← Go.Deep.add_add, hcell, hv]
end

theorem own : ownKnob Tryz.prog.godebug = none := by kernel_rfl
theorem laidOut : laidOutB Tryz.prog = true := by kernel_rfl

theorem list_of {α : Type} (Q : Nat → α → Prop) : ∀ n, (∀ i, i < n → ∃ s, Q i s) → ∃ ss : List α, ss.length = n ∧ ∀ (i : Nat) s, ss[i]? = some s → Q i s
  | 0, _ => ⟨[], rfl, fun i s h => by simp at h⟩
  | n + 1, h => by
    obtain ⟨ss, hl, hs⟩ := list_of Q n fun i hi => h i (by omega)
    obtain ⟨s, hq⟩ := h n (by omega)
    refine ⟨ss ++ [s], by simp [hl], fun i t ht => ?_⟩
    rcases Nat.lt_or_ge i n with hi | hi
    · rw [List.getElem?_append_left (by omega)] at ht
      exact hs i t ht
    · rw [List.getElem?_append_right (by omega)] at ht
      cases hd : i - ss.length with
      | zero =>
        rw [hd] at ht
        cases ht
        obtain rfl : i = n := by omega
        exact hq
      | succ k => rw [hd] at ht; simp at ht

theorem add_none {a : Addr} (h : a.spot = none) (k : Nat) : a.add k = ⟨a.block, a.off + k, none⟩ := by
  obtain ⟨b, o, s⟩ := a
  obtain rfl : s = none := h
  unfold Addr.add
  split
  · subst_vars
    rfl
  · rfl
theorem addr_none {a : Addr} (h : a.spot = none) : some a = some ⟨a.block, a.off, none⟩ := by
  obtain ⟨b, o, s⟩ := a
  obtain rfl : s = none := h
  rfl

/-- What a slice of bytes reads as. -/
theorem bytes_of {H : Type} {enc : TypeId × Value → H} {w : World} {n : Nat} {v : Value} {y : DataW H × List MemPlace}
    (h : DataW.trod enc Tryz.prog w 0 (fun _ => true) true n 33 [v] = some y) : ∃ (B : Option Addr) (c : Nat) (l : List Int), v = .slice B l.length c ∧ RdS w B (By l) := by
  rcases open_ints Tryz.underlying33 Tryz.underlying5 (by kernel_rfl) h with ⟨hcs, _⟩ | ⟨a, l, c, zs, hcs, _, hl, _, hz, _, hcell, _⟩
  · cases hcs
    exact ⟨none, 0, [], rfl, .inl rfl⟩
  · cases hcs
    have hz' : zs.length = c := by simpa using hz
    refine ⟨some a, c, zs.take l, by rw [List.length_take, Nat.min_eq_left (by omega)], ?_⟩
    cases hzs : zs with
    | nil => exact .inl (by simp [By])
    | cons z0 zs0 =>
      have h0 := hcell 0 (by rw [hzs]; simp)
      have hsp : a.spot = none := by simpa [Addr.add] using World.cell?_spot h0
      rw [← hzs]
      refine .inr ⟨a.block, a.off, addr_none hsp, fun j v hj => ?_⟩
      simp only [By, List.getElem?_map, Option.map_eq_some_iff] at hj
      obtain ⟨x, hx, rfl⟩ := hj
      obtain ⟨hjl, hx⟩ : j < l ∧ zs[j]? = some x := by
        rw [List.getElem?_take] at hx
        split at hx
        · exact ⟨by assumption, hx⟩
        · cases hx
      have hj2 := (List.getElem?_eq_some_iff.1 hx).1
      have hc := hcell j hj2
      rw [List.getD_eq_getElem?_getD, hx] at hc
      rw [add_none hsp] at hc
      exact hc

/-- What a slice of steps reads as. -/
theorem steps_of {H : Type} {enc : TypeId × Value → H} {w : World} {n : Nat} {A : Option Addr} {len cap : Nat} {y : DataW H × List MemPlace}
    (h : DataW.trod enc Tryz.prog w 0 (fun _ => true) true n 22 [.slice A len cap] = some y) : ∃ ss : List Step1, ss.length = len ∧ len ≤ cap ∧ Steps w A ss := by
  rcases open_slice_fields Tryz.underlying22 Tryz.underlying36 (by kernel_rfl) (by kernel_rfl) h with ⟨hcs, _⟩ | ⟨a, l, c, m, D, Pl, hcs, _, hl, _, hm, _, hf⟩
  · cases hcs
    exact ⟨[], rfl, Nat.le_refl _, .inl rfl⟩
  · cases hcs
    have hm' : m = cap := by simpa using hm
    subst hm'
    rcases Nat.eq_zero_or_pos len with rfl | hpos
    · exact ⟨[], rfl, hl, .inl rfl⟩
    have hsp : a.spot = none := by
      obtain ⟨ys, n', _, _, _, hj⟩ := hf 0 (by omega)
      obtain ⟨v0, y0, c0, _, _⟩ := hj 0 _ rfl
      have := World.cell?_spot c0
      have h0 : a.add (0 * 4 + 0) = a := if_pos rfl
      exact (congrArg Addr.spot h0).symm.trans this
    obtain ⟨ss, hss, hq⟩ := list_of (fun i (s : Step1) => ∃ B c, w.rangeAt a.block (a.off + i * 4) [.int .u8 s.kind, .int .i64 s.n, .slice B s.bytes.length c, .int .u32 s.epoch] ∧ RdS w B (By s.bytes)) len fun i hi => by
      obtain ⟨ys, n', _, _, _, hj⟩ := hf i (by omega)
      obtain ⟨v0, y0, c0, _, t0⟩ := hj 0 _ rfl
      obtain ⟨v1, y1, c1, _, t1⟩ := hj 1 _ rfl
      obtain ⟨v2, y2, c2, _, t2⟩ := hj 2 _ rfl
      obtain ⟨v3, y3, c3, _, t3⟩ := hj 3 _ rfl
      obtain ⟨z0, e0, _, _⟩ := DataW.trod_int Tryz.underlying5 t0
      obtain ⟨z1, e1, _, _⟩ := DataW.trod_int Tryz.underlying3 t1
      obtain ⟨B, cB, l, e2, hr⟩ := bytes_of t2
      obtain ⟨z3, e3, _, _⟩ := DataW.trod_int Tryz.underlying34 t3
      cases e0
      cases e1
      subst e2
      cases e3
      rw [add_none hsp] at c0 c1 c2 c3
      refine ⟨⟨z0, z1, l, z3⟩, B, cB, fun j v hj => ?_, hr⟩
      match j, hj with
      | 0, hj => cases hj; exact c0
      | 1, hj => cases hj; exact c1
      | 2, hj => cases hj; exact c2
      | 3, hj => cases hj; exact c3
    exact ⟨ss, hss, hl, .inr ⟨a.block, a.off, addr_none hsp, hq⟩⟩

set_option maxRecDepth 100000 in
theorem lifted (os : Os) (started : os.Started) (H : Type) (enc : TypeId × Value → H) :
    ReturnsInHanded {} Tryz.checked os 3 .any (Rows.imagePlainSpec.pre6 enc Tryz.prog Tryz.f3 Rows.imagePlainRow.domain false) (Rows.imagePlainSpec.post enc Tryz.prog Tryz.f3 false true false false) := by
  refine returnsInHanded_of_change (C := Tryz.checked) own started (by kernel_rfl) Tryz.func3
    (ChangeSpec.witness6 (enc := enc) (C := Tryz.checked) false ⟨#[], #[.int .i64 0, .slice none 0 0], []⟩ 8 (by kernel_rfl) (by kernel_rfl) (by kernel_rfl) (by kernel_rfl)) ?_
  intro W base args ds gs before hval0 hW hcnd _
  have hval : ∀ (j : Nat) t v, Tryz.f3.params[j]? = some t → args[j]? = some v → Value.okWide Tryz.prog W .any base t v := hval0
  have hW' := hW
  obtain ⟨p, q, hA0, hV, rfl, hfz, hnd⟩ := hW
  have hA : DataW.TrodAll enc Tryz.prog W 0 (fun _ => true) true Tryz.f3.params.toList args.toList ds p := hA0
  rw [Tryz.params3] at hA hval
  obtain ⟨v0, vs0, d0, ds0, p0, q0, hargs, rfl, rfl, h0, r0⟩ := trodAll_cons hA
  obtain ⟨v1, vs1, d1, ds1, p1, q1, rfl, rfl, rfl, h1, r1⟩ := trodAll_cons r0
  obtain ⟨rfl, rfl, rfl⟩ := trodAll_nil r1
  obtain rfl : args = #[v0, v1] := by cases args; simp_all
  obtain ⟨rfl, rfl⟩ := trodVars_none hV
  obtain ⟨a0, rfl, rfl, rfl, w0⟩ := open_int Tryz.underlying3 (hval 0 3 v0 rfl rfl) h0
  obtain ⟨A1, len1, cap1, rfl⟩ := okWide_slice Tryz.underlying22 (hval 1 22 v1 rfl rfl)
  have k1 := h1
  have lt1 : ∀ x ∈ p1, x.block < W.heap.size := by obtain ⟨m, hm⟩ := k1; exact DataW.trod_lt m _ _ _ hm
  obtain ⟨ss, hn, hc, hs⟩ : ∃ ss : List Step1, ss.length = len1 ∧ len1 ≤ cap1 ∧ Steps W A1 ss := by
    obtain ⟨fuel, hf⟩ := h1
    exact steps_of hf
  clear hA0 hval0
  refine Calls.mono (law_ok (w := W) (x := a0) hn hc hs) fun e W' he => ?_
  obtain ⟨v, rfl, rfl, hm⟩ := he
  have bel : Below W.heap.size W W' := hm.below fun k hk => ⟨hk, id⟩
  exact ⟨_, rfl, _, _, _, [], _, [], hW', trodAll_mk1 (shut_bool Tryz.underlying4 _), (trodAll_cons_mk (shut_int Tryz.underlying3 w0) (trodAll_cons_mk (Below.trod laidOut (by kernel_rfl) (of_decide_eq_true (by kernel_rfl)) k1 bel lt1) trodAll_mk0)), rfl, bel.frame _, fun h => by cases h⟩

theorem over : Rows.imagePlainRow.holds Tryz.pinned (OpenSpec.ofChange Rows.imagePlainSpec) :=
  OpenClaim.holds_of_wide 3 Tryz.f3 rfl rfl rfl rfl rfl rfl rfl ⟨rfl, rfl, rfl, rfl, rfl⟩ rfl rfl rfl rfl rfl (by kernel_rfl) Tryz.func3 (by kernel_rfl)
    (of_decide_eq_true (by kernel_rfl)) (by unfold Func.isWrapper; first | (rw [if_pos (by decide +kernel)]; kernel_rfl) | (rw [if_neg (by decide +kernel)]; exact ⟨rfl, rfl⟩))
    (fun os started H enc _ => lifted os started H enc)
end RowImagePlain

/-- THE STATEMENT. -/
theorem imagePlainProved : Rows.ImagePlainSaid := RowImagePlain.over
#print axioms imagePlainProved
end Go.Proofs.YtccfdbldmnkgcaaGreat
