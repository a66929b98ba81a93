/-
  A plain image: its methods; the document's list of pages; comparisons.
-/
import Derived.Test.YtccfdbldmnkgcaaGreatPlain
set_option linter.all false
namespace Go.Proofs.YtccfdbldmnkgcaaGreat
open Go Go.RowKit Go.Proofs

section
variable {w : World} {bm bs : Nat} {ps : List (List Int)}

theorem Img.opn (h : Img w bm bs ps) : ∃ bp c vals, (w.cell? ⟨bm, 0, none⟩ = some (.int .i64 3) ∧ w.cell? ⟨bm, 0 + 1, none⟩ = some (.iface 58 (.pointer (some ⟨bp, 0, none⟩))) ∧ w.cell? ⟨bm, 0 + 2, none⟩ = some (.pointer none)) ∧
    w.cell? ⟨bp, 0, none⟩ = some (.slice (some ⟨bs, 0, none⟩) ps.length c) ∧ Own w 0 33 1 (some ⟨bs, 0, none⟩) ps.length c vals ∧ PgsL (fun k => k ≠ bs) w vals ps := by
  obtain ⟨bp, c, vals, h1, h2, h3, h4, _⟩ := h.ex
  exact ⟨bp, c, vals, ⟨by rw [h1.cell]; rfl, by rw [h1.cell]; rfl, by rw [h1.cell]; rfl⟩, by rw [h2.cell]; rfl, h3, h4⟩

theorem ok_ok (h : Img w bm bs ps) : Ret Tryz.prog 23 #[.pointer (some ⟨bm, 0, none⟩)] w fun v w' => v = .bool true ∧ w' = w := by
  obtain ⟨bp, c, vals, ⟨h1, h2, h3⟩, _⟩ := h.opn
  refine L_23 _ w _ ⟨fun _ => ⟨bm, 0, rfl, 3, h1, rfl, rfl⟩, fun h => by cases h⟩

theorem kind_ok (h : Img w bm bs ps) : Ret Tryz.prog 22 #[.pointer (some ⟨bm, 0, none⟩)] w fun v w' => v = .int .i64 3 ∧ w' = w := by
  obtain ⟨bp, c, vals, ⟨h1, h2, h3⟩, _⟩ := h.opn
  refine L_22 _ w _ ((ok_ok h).mono ?_)
  rintro v w' ⟨rfl, rfl⟩
  exact ⟨true, rfl, fun h => (by cases h), fun _ => ⟨bm, 0, rfl, 3, h1, rfl, rfl⟩⟩

theorem dead_ok (h : Img w bm bs ps) : Ret Tryz.prog 18 #[.pointer (some ⟨bm, 0, none⟩)] w fun v w' => v = .bool false ∧ w' = w := by
  obtain ⟨bp, c, vals, ⟨h1, h2, h3⟩, _⟩ := h.opn
  refine L_18 _ w _ ((ok_ok h).mono ?_)
  rintro v w' ⟨rfl, rfl⟩
  refine ⟨true, rfl, fun _ => ⟨bm, 0, rfl, none, h3, ?_⟩, fun h => by cases h⟩
  refine (L_24 none w' (fun v w'' => v = .bool false ∧ w'' = w') ?_).mono fun v w'' hv => ⟨false, hv.1, rfl, hv.2⟩
  refine (L_25 none w' (fun v w'' => v = .bool false ∧ w'' = w') ⟨fun h => absurd rfl h, fun _ => ⟨rfl, rfl⟩⟩).mono ?_
  rintro v w'' ⟨rfl, rfl⟩
  exact ⟨false, rfl, fun h => (by cases h), fun _ => ⟨rfl, rfl⟩⟩

theorem meth_Page (p : Option Addr) : MethIs Tryz.prog (.iface 58 (.pointer p)) "Page" 46 (.pointer p) := ⟨_, _, rfl, fun w => by kernel_rfl, Tryz.call46⟩
theorem meth_Set (p : Option Addr) : MethIs Tryz.prog (.iface 58 (.pointer p)) "Set" 50 (.pointer p) := ⟨_, _, rfl, fun w => by kernel_rfl, Tryz.call50⟩
theorem meth_Dirty (p : Option Addr) : MethIs Tryz.prog (.iface 58 (.pointer p)) "Dirty" 43 (.pointer p) := ⟨_, _, rfl, fun w => by kernel_rfl, Tryz.call43⟩
theorem meth_Done (p : Option Addr) : MethIs Tryz.prog (.iface 58 (.pointer p)) "Done" 44 (.pointer p) := ⟨_, _, rfl, fun w => by kernel_rfl, Tryz.call44⟩
theorem meth_Plan (p : Option Addr) : MethIs Tryz.prog (.iface 58 (.pointer p)) "Plan" 48 (.pointer p) := ⟨_, _, rfl, fun w => by kernel_rfl, Tryz.call48⟩
theorem meth_Root (p : Option Addr) : MethIs Tryz.prog (.iface 58 (.pointer p)) "Root" 49 (.pointer p) := ⟨_, _, rfl, fun w => by kernel_rfl, Tryz.call49⟩
theorem meth_Pages (p : Option Addr) : MethIs Tryz.prog (.iface 58 (.pointer p)) "Pages" 47 (.pointer p) := ⟨_, _, rfl, fun w => by kernel_rfl, Tryz.call47⟩

theorem dirty_ok (h : Img w bm bs ps) : Ret Tryz.prog 15 #[.pointer (some ⟨bm, 0, none⟩)] w fun v w' => v = .slice none 0 0 ∧ w' = w := by
  obtain ⟨bp, c, vals, ⟨h1, h2, h3⟩, _⟩ := h.opn
  refine L_15 _ w _ ((ok_ok h).mono ?_)
  rintro v w' ⟨rfl, rfl⟩
  refine ⟨true, rfl, fun h => (by cases h), fun _ => ⟨bm, 0, rfl, _, h2, _, _, meth_Dirty _, ?_⟩⟩
  exact L_43 _ w' _ ⟨none, 0, 0, rfl, rfl, rfl⟩

theorem done_ok (h : Img w bm bs ps) : Ret Tryz.prog 16 #[.pointer (some ⟨bm, 0, none⟩)] w fun v w' => v = .int .i64 0 ∧ w' = w := by
  obtain ⟨bp, c, vals, ⟨h1, h2, h3⟩, _⟩ := h.opn
  refine L_16 _ w _ ((ok_ok h).mono ?_)
  rintro v w' ⟨rfl, rfl⟩
  refine ⟨true, rfl, fun h => (by cases h), fun _ => ⟨bm, 0, rfl, _, h2, _, _, meth_Done _, ?_⟩⟩
  exact L_44 _ w' _ ⟨0, rfl, rfl, rfl⟩

theorem pages_ok (h : Img w bm bs ps) : Ret Tryz.prog 21 #[.pointer (some ⟨bm, 0, none⟩)] w fun v w' => v = .int .i64 (ps.length : Nat) ∧ w' = w := by
  obtain ⟨bp, c, vals, ⟨h1, h2, h3⟩, h4, _⟩ := h.opn
  refine L_21 _ w _ ((ok_ok h).mono ?_)
  rintro v w' ⟨rfl, rfl⟩
  refine ⟨true, rfl, fun h => (by cases h), fun _ => ⟨bm, 0, rfl, _, h2, _, _, meth_Pages _, ?_⟩⟩
  exact L_47 _ w' _ ⟨bp, 0, rfl, _, _, _, h4, _, rfl, rfl, rfl⟩

/-- The reference that is none, as cells. -/
def ref0 : List Value := [.int .i64 0, .int .u32 0] ++ List.replicate 32 (.int .u8 0)

theorem root_ok (h : Img w bm bs ps) : Ret Tryz.prog 17 #[.pointer (some ⟨bm, 0, none⟩)] w fun v w' => v = .agg ref0.toArray ∧ Ext w w' := by
  refine L_17 _ w _ ?_
  intro b1 w1 e1 e2
  have m1 : Ext w w1 := (Mod.refl _ _).alloc e2
  have hB1 : Blk w1 b1 46 ref0.toArray := Blk.new e1 e2
  obtain ⟨bp, c, vals, ⟨h1, h2, h3⟩, _⟩ := (h.mod (ψ := fun _ => False) m1).opn
  refine (ok_ok (h.mod (ψ := fun _ => False) m1)).mono ?_
  rintro v w' ⟨rfl, rfl⟩
  refine ⟨true, rfl, fun h => (by cases h), fun _ => ⟨bm, 0, rfl, _, h2, _, _, meth_Root _, ?_⟩⟩
  refine L_49 _ w' _ ?_
  intro b2 w2 e3 e4
  have m2 : Ext w' w2 := (Mod.refl _ _).alloc e4
  have hB2 : Blk w2 b2 46 ref0.toArray := Blk.new e3 e4
  refine ⟨hB2.there (by decide), ?_⟩
  intro w3 e5
  have hB3 : Blk w3 b2 46 ref0.toArray := by
    have := Blk.sets ref0 0 w2 ref0 hB2 (by decide)
    rw [show w2.setCells b2 0 ref0 = w3 from e5.symm] at this
    exact this
  have m3 : Ext w' w3 := m2.sets (.inl (by omega)) e5
  refine ⟨0, 0, List.replicate 32 (.int .u8 0), by decide, hB3.range_all, 0, 0, List.replicate 32 (.int .u8 0), rfl, by decide, by decide, one_of rfl, ?_, ?_⟩
  · exact (hB1.ext m3).there (by decide)
  · intro w5 e6
    have m5 : Ext w w5 := (m1.ext m3).sets (.inl (by omega)) e6
    have hB5 : Blk w5 b1 46 ref0.toArray := by
      have := Blk.sets ref0 0 w3 ref0 (hB1.ext m3) (by decide)
      rw [show w3.setCells b1 0 ref0 = w5 from e6.symm] at this
      exact this
    exact ⟨0, 0, List.replicate 32 (.int .u8 0), by decide, hB5.range_all, rfl, m5⟩

theorem plan_ok (h : Img w bm bs ps) (x : Int) : Ret Tryz.prog 14 #[.pointer (some ⟨bm, 0, none⟩), .int .u32 x] w fun v w' => v = .tuple #[.slice none 0 0, .agg ref0.toArray, .int .i64 0] ∧ Ext w w' := by
  refine L_14 _ x w _ ?_
  intro b1 w1 e1 e2
  have m1 : Ext w w1 := (Mod.refl _ _).alloc e2
  have hB1 : Blk w1 b1 46 ref0.toArray := Blk.new e1 e2
  obtain ⟨bp, c, vals, ⟨h1, h2, h3⟩, _⟩ := (h.mod (ψ := fun _ => False) m1).opn
  refine (ok_ok (h.mod (ψ := fun _ => False) m1)).mono ?_
  rintro v w' ⟨rfl, rfl⟩
  refine ⟨true, rfl, fun h => (by cases h), fun _ => ⟨bm, 0, rfl, _, h2, _, _, meth_Plan _, ?_⟩⟩
  refine L_48 _ x w' _ ?_
  intro b2 w2 e3 e4
  have m2 : Ext w' w2 := (Mod.refl _ _).alloc e4
  have hB2 : Blk w2 b2 46 ref0.toArray := Blk.new e3 e4
  refine ⟨hB2.there (by decide), ?_⟩
  intro w3 e5
  have hB3 : Blk w3 b2 46 ref0.toArray := by
    have := Blk.sets ref0 0 w2 ref0 hB2 (by decide)
    rw [show w2.setCells b2 0 ref0 = w3 from e5.symm] at this
    exact this
  have m3 : Ext w' w3 := m2.sets (.inl (by omega)) e5
  refine ⟨0, 0, List.replicate 32 (.int .u8 0), by decide, hB3.range_all, none, 0, 0, 0, 0, List.replicate 32 (.int .u8 0), 0, rfl, by decide, by decide, one_of rfl, ?_, ?_⟩
  · exact (hB1.ext m3).there (by decide)
  · intro w5 e6
    have m5 : Ext w w5 := (m1.ext m3).sets (.inl (by omega)) e6
    have hB5 : Blk w5 b1 46 ref0.toArray := by
      have := Blk.sets ref0 0 w3 ref0 (hB1.ext m3) (by decide)
      rw [show w3.setCells b1 0 ref0 = w5 from e6.symm] at this
      exact this
    exact ⟨0, 0, List.replicate 32 (.int .u8 0), by decide, hB5.range_all, rfl, m5⟩

theorem getD_nat {ps : List (List Int)} {x : Int} (h0 : 0 ≤ x) (h1 : x < (ps.length : Nat)) : ∃ p, ps[x.toNat]? = some p :=
  ⟨ps[x.toNat]'(by omega), List.getElem?_eq_getElem (by omega)⟩

theorem page_get (h : Img w bm bs ps) (x : Int) : Ret Tryz.prog 12 #[.pointer (some ⟨bm, 0, none⟩), .int .i64 x] w fun v w' =>
    (¬ (0 ≤ x ∧ x < (ps.length : Nat)) ∧ v = .tuple #[.slice none 0 0, .int .i64 1] ∧ w' = w) ∨
    (0 ≤ x ∧ x < (ps.length : Nat) ∧ ∃ p A c, ps[x.toNat]? = some p ∧ v = .tuple #[.slice A p.length c, .int .i64 0] ∧ RdP (Fresh w w') w' A (By p) ∧ Ext w w') := by
  obtain ⟨bp, c, vals, ⟨h1, h2, h3⟩, h4, h5, h6⟩ := h.opn
  refine L_12 _ x w _ ((ok_ok h).mono ?_)
  rintro v w' ⟨rfl, rfl⟩
  refine ⟨true, rfl, fun h => (by cases h), fun _ => ⟨bm, 0, rfl, _, h2, _, _, meth_Page _, ?_⟩⟩
  refine L_46 _ x w' _ ⟨fun hx => ⟨none, 0, 0, 1, rfl, .inl ⟨by omega, rfl, rfl⟩⟩, fun hx => ⟨bp, 0, rfl, _, _, _, h4, fun hx2 => ⟨none, 0, 0, 1, rfl, .inl ⟨by omega, rfl, rfl⟩⟩, fun hx2 => ?_⟩⟩
  obtain ⟨p, hp⟩ := getD_nat (ps := ps) (x := x) (by omega) (by omega)
  obtain ⟨A, c', hv, hr⟩ := h6.2 _ p hp
  obtain ⟨b, o, _, he, hc⟩ := h5.rd.at hv
  injection he with he; injection he with he1 he2; subst he1; subst he2
  have hlen : p.length = 256 := h.all p (List.mem_of_getElem? hp)
  refine ⟨_, _, _, h4, bs, 0, rfl, by omega, by omega, A, p.length, c', by rw [Nat.mul_one]; exact hc, ?_⟩
  refine (clone_ok (by simp) hr.rd (One_By p) (by omega)).mono ?_
  rintro v w'' ⟨A', c'', rfl, hr', hm⟩
  exact ⟨A', p.length, c'', rfl, _, _, _, _, rfl, .inr ⟨by omega, by omega, p, A', c'', hp, rfl, hr', hm⟩⟩

theorem page_set (h : Img w bm bs ps) (x : Int) {A : Option Addr} {n c : Nat} {l : List Int} (hl : l.length = n) (hr : RdS w A (By l)) :
    Ret Tryz.prog 11 #[.pointer (some ⟨bm, 0, none⟩), .int .i64 x, .slice A n c] w fun v w' =>
    (¬ (0 ≤ x ∧ x < (ps.length : Nat) ∧ n = 256) ∧ v = .int .i64 1 ∧ w' = w) ∨
    (0 ≤ x ∧ x < (ps.length : Nat) ∧ n = 256 ∧ v = .int .i64 0 ∧ Img w' bm bs (ps.set x.toNat l) ∧ Mod (fun k => k = bs) w w') := by
  obtain ⟨bp, cc, vals, ⟨h1, h2, h3⟩, h4, h5, h6⟩ := h.opn
  refine L_11 _ x A n c w _ ((ok_ok h).mono ?_)
  rintro v w' ⟨rfl, rfl⟩
  refine ⟨true, rfl, fun h => (by cases h), fun _ => ⟨bm, 0, rfl, _, h2, _, _, meth_Set _, ?_⟩⟩
  refine L_50 _ x A n c w' _ ⟨fun hx => ⟨1, rfl, .inl ⟨by omega, rfl, rfl⟩⟩, fun hx => ⟨bp, 0, rfl, _, _, _, h4, fun hx2 => ⟨1, rfl, .inl ⟨by omega, rfl, rfl⟩⟩, fun hx2 =>
    ⟨fun hn => ⟨1, rfl, .inl ⟨by omega, rfl, rfl⟩⟩, fun hn => ?_⟩⟩⟩
  intro w1 e1
  have m1 : Ext w' w1 := (Mod.refl _ _).drew e1
  refine ⟨_, _, _, h4, ?_⟩
  refine (clone_ok (by simpa using hl) (hr.ext m1) (One_By l) (by omega)).mono ?_
  rintro v w2 ⟨A4, c4, rfl, hr4, m2⟩
  have m12 : Ext w' w2 := m1.trans m2
  obtain ⟨bp', c', vals', g1, g2, g3, g4, g5, g6⟩ := h.ex
  have hown2 := g3.ext m12 fun _ _ _ => id
  have hvl : vals'.length = ps.length := by have := g3.len; omega
  rcases hown2.2 with ⟨e, _⟩ | ⟨g, cap, cur, e, hb0, hg, hnc, hcm, hcs, htk⟩
  · injection e with e; cases e
  injection e with e _ ec
  injection e with e; injection e with e; subst e; subst ec
  have hB : Blk w2 bs 33 cur := hg
  have hidx : x.toNat < cur.size := by omega
  refine ⟨A4, n, c4, rfl, Mod.keep m12, bs, 0, rfl, by omega, by omega, ?_, hB.frozen _, ?_⟩
  · rw [hB.cell, Array.getElem?_eq_getElem (by omega)]; rfl
  · intro w3 e3
    have e3' : w3 = w2.setCell ⟨bs, x.toNat, none⟩ (.slice A4 n c4) := by rw [e3]; simp
    have hB3 := hB.set e3'
    have m23 : Mod (fun k => k = bs) w2 w3 := (Mod.refl _ _).set (.inr rfl) e3'
    have hbs2 : bs < w'.heap.size := by
      have := (g3.base bs 0 rfl).2; omega
    refine ⟨0, rfl, .inr ⟨by omega, by omega, by omega, rfl, ⟨⟨bp', c', vals'.set x.toNat (.slice A4 l.length c4), (g1.ext m12).mod m23 g5, ?_, ?_, ?_, g5, g6⟩, ?_, ?_, ?_⟩, (Mod.of_ext m12).trans m23⟩⟩
    · rw [List.length_set]; exact (g2.ext m12).mod m23 g6
    · rw [List.length_set]
      refine ⟨by simp [hvl], .inr ⟨bs, c', _, rfl, Nat.zero_le _, hB3, hnc, hcm, by simpa using hcs, ?_⟩⟩
      rw [Nat.mul_one] at htk ⊢
      rw [Array.toList_setIfInBounds, hl, List.take_set, htk]
    · have hp2 := (g4.ext m12).mod m23 fun k hk => hk
      have hr3 : RdP (fun k => k ≠ bs) w3 A4 (By l) := by
        refine RdP.mod (φ := fun k => k ≠ bs) (hr4.mono fun k _ hk => ?_) m23 fun k hk => hk
        have := m1.size
        have := hk.1
        intro he
        omega
      exact hp2.set hr3
    · intro p hp
      rcases List.mem_or_eq_of_mem_set hp with hp | rfl
      · exact h.all p hp
      · omega
    · rw [List.length_set]; exact h.ne
    · rw [List.length_set]; exact h.few
end
end Go.Proofs.YtccfdbldmnkgcaaGreat
