/-
 For each function: what it asks of the world that it is called in (S_n), and that this suffices (L_n). Written by a program of this proof (gen.py) off the function's own print.
-/
import Derived.Test.YtpkfdhlkknanmaaGreatDrx
import Derived.Test.YtpkfdhlkknanmaaGreatProg
set_option linter.all false
set_option maxRecDepth 4000
namespace Go.Proofs.YtpkfdhlkknanmaaGreat
open Go Go.RowKit Go.Proofs
def S_21 (A1 : Option Addr) (n1 c1 : Nat) (w : World) (Q : Value → World → Prop) : Prop :=
 (A1 = none →
 Q (.slice none 0 0) w) ∧
 (A1 ≠ none →
 ∀ b1 w1, b1 = w.heap.size → w1 = w.alloc (.cells #[] 46) →
 ∃ l1 l2 : List Value, (0 + n1) * 48 ≤ 140737488355328 ∧ l1.length = 0 * 34 ∧ RdS w1 (some ⟨b1, 0, none⟩) l1 ∧ l2.length = n1 * 34 ∧ RdS w1 A1 l2 ∧ One l2 ∧ (0 + n1 ≤ 0 → Room w1 (some ⟨b1, 0, none⟩) (0 * 34) (n1 * 34)) ∧
 ∀ A2 c2 w2, Appended w1 46 34 (([.int .i64 0, .int .u32 0] : List Value) ++ (List.replicate 32 (.int .u8 0 : Value))).toArray (some ⟨b1, 0, none⟩) 0 0 n1 l1 l2 A2 c2 w2 →
 Q (.slice A2 (0 + n1) c2) w2)
theorem L_21 (A1 : Option Addr) (n1 c1 : Nat) (w : World) (Q : Value → World → Prop) (h : S_21 A1 n1 c1 w Q) : Ret Tryz.prog 21 #[.slice A1 n1 c1] w Q := by
 unfold S_21 at h
 refine ret_of_wp Tryz.func21 rfl (wp_seq (qx (qbr (qz (wp_seq (wp_seq (qx (qbt 1 (qq (qam (A := A1) (n := n1) (c := c1) rfl Tryz.underlying65 ?_))))))))))
 refine qo (qz (wp_cond_split (t := A1.isNone) (by kernel_rfl) (fun hb => ?_) (fun hb => ?_)))
 ·replace h := h.1 (Option.isNone_iff_eq_none.1 hb)
  refine wp_seq (qx (qbr (qz (wp_ret (qs ?_)))))
  exact qbh (v := .slice none 0 0) h
 ·replace h := h.2 (ne_none_of hb)
  refine wp_skip (qz (wp_seq (qx (qq (qah rfl Tryz.underlying65 Tryz.sizeOf46 ?_)))))
  intro b1 w1 e1 e2; replace h := h b1 w1 e1 e2
  refine qbt 1 ?_
  obtain ⟨l1, l2, h1, h2, h3, h4, h5, h6, h7, h⟩ := h
  refine qq (qad (A := (some ⟨b1, 0, none⟩)) (n := 0) (c := 0) (B := A1) (m := n1) (c2 := c1) (olds := l1) (news := l2) rfl Tryz.underlying65 Tryz.underlying65 Tryz.typeInfo46 rfl (by decide) h1 h2 h3 h4 h5 h6 h7 ?_)
  intro A2 c2 w2 e1; replace h := h A2 c2 w2 e1
  refine qbr (qz (wp_ret ?_))
  exact qbh (v := .slice A2 (0 + n1) c2) h
def S_22 (A1 : Option Addr) (n1 c1 : Nat) (w : World) (Q : Value → World → Prop) : Prop :=
 ((n1 : Int) < 1 →
 Q (.tuple #[.slice none 0 0, .int .i64 1]) w) ∧
 (¬ (n1 : Int) < 1 →
 ((n1 : Int) > 6 →
 Q (.tuple #[.slice none 0 0, .int .i64 1]) w) ∧
 (¬ (n1 : Int) > 6 →
 ∀ b1 w1, b1 = w.heap.size → w1 = w.alloc (.cells #[.int .u8 (IntKind.u8.wrap (n1 : Int))] 5) →
 ∃ (I1 : (Option Addr) → Nat → Nat → Int → World → Prop) (μ1 : (Option Addr) → Nat → Nat → Int → World → Nat), I1 (some ⟨b1, 0, none⟩) 1 1 0 w1 ∧
 ∀ A2 n2 c2 x1 w2, I1 A2 n2 c2 x1 w2 →
 (x1 < (n1 : Int) →
 ∃ b2 o1, A1 = some ⟨b2, o1, none⟩ ∧ (0 : Int) ≤ x1 ∧ x1 < (n1 : Int) ∧
 ∃ (x2 : Int) (x3 : Int) (d1 : List Value), d1.length = 32 ∧ w2.rangeAt b2 (o1 + (x1).toNat * 34) (([.int .i64 x2, .int .u32 x3] : List Value) ++ d1) ∧
 ∀ b3 w3, b3 = w2.heap.size → w3 = w2.alloc (.cells (([.int .i64 0, .int .u32 0] : List Value) ++ (List.replicate 32 (.int .u8 0 : Value))).toArray 46) →
 (([.int .i64 x2, .int .u32 x3] : List Value) ++ d1).length = 34 ∧ One (([.int .i64 x2, .int .u32 x3] : List Value) ++ d1) ∧ w3.there b3 0 34 ∧
 ∀ w4, w4 = w3.setCells b3 0 (([.int .i64 x2, .int .u32 x3] : List Value) ++ d1) →
 ∃ x4, w4.cell? ⟨b3, 0, none⟩ = some (.int .i64 x4) ∧
 (x4 ≠ 0 →
 ∃ x5, w4.cell? ⟨b3, 0, none⟩ = some (.int .i64 x5) ∧
 (x5 ≠ 1 →
 Q (.tuple #[.slice none 0 0, .int .i64 1]) w4) ∧
 (x5 = 1 →
 ∃ (x6 : Int) (x7 : Int) (d2 : List Value), d2.length = 32 ∧ w4.rangeAt b3 0 (([.int .i64 x6, .int .u32 x7] : List Value) ++ d2) ∧
 Ret Tryz.prog 47 #[.agg (([.int .i64 x6, .int .u32 x7] : List Value) ++ d2).toArray] w4 fun r1 w5 => ∃ A3 n3 c3, r1 = .slice A3 n3 c3 ∧
 ∃ l1 l2 : List Value, (n2 + n3) * 1 ≤ 140737488355328 ∧ l1.length = n2 * 1 ∧ RdS w5 A2 l1 ∧ l2.length = n3 * 1 ∧ RdS w5 A3 l2 ∧ One l2 ∧ (n2 + n3 ≤ c2 → Room w5 A2 (n2 * 1) (n3 * 1)) ∧
 ∀ A4 c4 w6, Appended w5 5 1 #[.int .u8 0] A2 n2 c2 n3 l1 l2 A4 c4 w6 →
 I1 A4 (n2 + n3) c4 (IntKind.i64.wrap (x1 + 1)) w6 ∧ μ1 A4 (n2 + n3) c4 (IntKind.i64.wrap (x1 + 1)) w6 < μ1 A2 n2 c2 x1 w2)) ∧
 (x4 = 0 →
 ∃ (x8 : Int) (x9 : Int) (d3 : List Value), d3.length = 32 ∧ w4.rangeAt b3 0 (([.int .i64 x8, .int .u32 x9] : List Value) ++ d3) ∧
 Ret Tryz.prog 47 #[.agg (([.int .i64 x8, .int .u32 x9] : List Value) ++ d3).toArray] w4 fun r2 w7 => ∃ A5 n4 c5, r2 = .slice A5 n4 c5 ∧
 ∃ l3 l4 : List Value, (n2 + n4) * 1 ≤ 140737488355328 ∧ l3.length = n2 * 1 ∧ RdS w7 A2 l3 ∧ l4.length = n4 * 1 ∧ RdS w7 A5 l4 ∧ One l4 ∧ (n2 + n4 ≤ c2 → Room w7 A2 (n2 * 1) (n4 * 1)) ∧
 ∀ A6 c6 w8, Appended w7 5 1 #[.int .u8 0] A2 n2 c2 n4 l3 l4 A6 c6 w8 →
 I1 A6 (n2 + n4) c6 (IntKind.i64.wrap (x1 + 1)) w8 ∧ μ1 A6 (n2 + n4) c6 (IntKind.i64.wrap (x1 + 1)) w8 < μ1 A2 n2 c2 x1 w2)) ∧
 (¬ x1 < (n1 : Int) →
 Ret Tryz.prog 48 #[.slice A2 n2 c2, .int .i64 256] w2 fun r3 w9 => ∃ A7 n5 c7 x10, r3 = .tuple #[.slice A7 n5 c7, .int .i64 x10] ∧
 Q (.tuple #[.slice A7 n5 c7, .int .i64 x10]) w9)))
theorem L_22 (A1 : Option Addr) (n1 c1 : Nat) (w : World) (Q : Value → World → Prop) (h : S_22 A1 n1 c1 w Q) : Ret Tryz.prog 22 #[.slice A1 n1 c1] w Q := by
 unfold S_22 at h
 refine ret_of_wp Tryz.func22 rfl (wp_seq (qx (qbr (qz (wp_seq (wp_seq (qx (qbt 4 (wl_split (e := (decide ((n1 : Int) < 1))) ?_ ?_)))))))))
 ·intro hb; refine qbs 10 (e := (decide ((n1 : Int) < 1))) (b := true) hb ?_
  replace h := h.1 (of_decide_eq_true hb)
  refine qbr (qz (wp_cond_true (by kernel_rfl) (wp_seq (qx (qbr (qz (wp_ret (qs ?_))))))))
  exact qbh (v := .tuple #[.slice none 0 0, .int .i64 1]) h
 ·intro hb; refine qbs 10 (e := (decide ((n1 : Int) < 1))) (b := false) hb ?_
  replace h := h.2 (of_decide_eq_false hb)
  refine qbr (qz (wp_cond_split (t := (decide ((n1 : Int) > 6))) (by kernel_rfl) (fun hb => ?_) (fun hb => ?_)))
  ·replace h := h.1 (of_decide_eq_true hb)
   refine wp_seq (qx (qbr (qz (wp_ret (qs ?_)))))
   exact qbh (v := .tuple #[.slice none 0 0, .int .i64 1]) h
  ·replace h := h.2 (of_decide_eq_false hb)
   refine wp_skip (qz (wp_seq (qx (qbt 3 (qq (qag (cs := ([.int .u8 (IntKind.u8.wrap (n1 : Int))] : List Value)) rfl Tryz.underlying62 Tryz.sizeOf5 Tryz.zeroValue5 (by kernel_rfl) (by decide) (by decide) ?_))))))
   intro b1 w1 e1 e2; replace h := h b1 w1 e1 e2
   refine qbr (qz (wp_seq (wp_seq (qx (qbr (qz (wp_block ?_)))))))
   obtain ⟨I1, μ1, hI1, hB1⟩ := h
   refine wp_loop_st (σ := (Option Addr) × Nat × Nat × Int) (fun s a => ∃ u1 : Nat → Value, a = ⟨#[.slice A1 n1 c1, undef, u1 2, u1 3, .slice s.1 s.2.1 s.2.2.1, undef, u1 6, .slice A1 n1 c1, .int .i64 (n1 : Int), .bool (decide ((n1 : Int) < 1)), .bool false, .slice A1 n1 c1, .int .i64 (n1 : Int), .bool (decide ((n1 : Int) > 6)), .bool (decide ((n1 : Int) > 6)), .slice A1 n1 c1, .int .i64 (n1 : Int), .int .u8 (IntKind.u8.wrap (n1 : Int)), .slice (some ⟨b1, 0, none⟩) 1 1, .slice A1 n1 c1, .int .i64 (n1 : Int), .int .i64 s.2.2.2, u1 22, u1 23, u1 24, u1 25, u1 26, u1 27, u1 28, u1 29, u1 30, u1 31, u1 32, u1 33, u1 34, u1 35, u1 36, u1 37, undef, undef, undef, undef], []⟩) (fun s w => I1 s.1 s.2.1 s.2.2.1 s.2.2.2 w) (fun s w => μ1 s.1 s.2.1 s.2.2.1 s.2.2.2 w) ((some ⟨b1, 0, none⟩), 1, 1, 0) (qaa) hI1 ?_
   rintro ⟨A2, n2, c2, x1⟩ a w2 ⟨u1, rfl⟩ hI1
   have h := hB1 A2 n2 c2 x1 w2 hI1
   refine wp_seq (qx (qbr (qz (wp_seq (wp_cond_split (t := (decide (x1 < (n1 : Int)))) (by kernel_rfl) (fun hb => ?_) (fun hb => ?_))))))
   ·replace h := h.1 (of_decide_eq_true hb)
    refine wp_skip (qz (wp_seq (wp_block (wp_seq (qx ?_)))))
    obtain ⟨b2, o1, rfl, h⟩ := h
    obtain ⟨h1, h2, h⟩ := h
    refine qq (qan (k := .i64) (j := x1) (b := b2) (off := o1) (n := n1) (c := c1) rfl Tryz.underlying65 Tryz.sizeOf46 h1 h2 ?_)
    obtain ⟨x2, x3, d1, hl0, hx, h⟩ := h
    refine qq (qaq (cs := (([.int .i64 x2, .int .u32 x3] : List Value) ++ d1)) rfl Tryz.isAgg46 Tryz.sizeOf46 (by simp [hl0]) hx ?_)
    refine qq (qac rfl Tryz.zeroValue46 ?_)
    intro b3 w3 e1 e2; replace h := h b3 w3 e1 e2
    obtain ⟨hl, h1, hw, h⟩ := h
    refine qq (qbd (cs := (([.int .i64 x2, .int .u32 x3] : List Value) ++ d1)) rfl Tryz.sizeOf46 hl h1 hw ?_)
    intro w4 e1; replace h := h w4 e1
    refine qo (qz (wp_seq (wp_seq (qx (qbt 1 ?_)))))
    obtain ⟨x4, hx, h⟩ := h
    refine qq (qap (v := .int .i64 x4) rfl Tryz.isAgg3 hx ?_)
    refine qbt 2 (wl_split (e := (x4 != 0)) ?_ ?_)
    ·intro hb; refine qbs 28 (e := (x4 != 0)) (b := true) hb ?_
     replace h := h.1 (bne_iff_ne.1 hb)
     refine qbt 1 ?_
     obtain ⟨x5, hx, h⟩ := h
     refine qq (qap (v := .int .i64 x5) rfl Tryz.isAgg3 hx ?_)
     refine qbr (qz (wp_cond_split (t := (x5 != 1)) (by kernel_rfl) (fun hb => ?_) (fun hb => ?_)))
     ·replace h := h.1 (bne_iff_ne.1 hb)
      refine wp_seq (qx (qbr (qz (wp_ret (qs (block_ret (qs (qs (block_ret (qs ?_))))))))))
      exact qbh (v := .tuple #[.slice none 0 0, .int .i64 1]) h
     ·replace h := h.2 (bne_false hb)
      refine wp_skip (qz (qx (qbt 1 ?_)))
      obtain ⟨x6, x7, d2, hl0, hx, h⟩ := h
      refine qq (qaq (cs := (([.int .i64 x6, .int .u32 x7] : List Value) ++ d2)) rfl Tryz.isAgg46 Tryz.sizeOf46 (by simp [hl0]) hx ?_)
      refine qq (qai (args := #[.agg (([.int .i64 x6, .int .u32 x7] : List Value) ++ d2).toArray]) rfl Tryz.call47 (Ret.mono h ?_))
      clear h; rintro r1 w5 ⟨A3, n3, c3, rfl, h⟩
      obtain ⟨l1, l2, h1, h2, h3, h4, h5, h6, h7, h⟩ := h
      refine qq (qad (A := A2) (n := n2) (c := c2) (B := A3) (m := n3) (c2 := c3) (olds := l1) (news := l2) rfl Tryz.underlying62 Tryz.underlying62 Tryz.typeInfo5 rfl (by decide) h1 h2 h3 h4 h5 h6 h7 ?_)
      intro A4 c4 w6 e1; replace h := h A4 c4 w6 e1
      refine qbr (qu (qz (qx (qbr (qz ?_)))))
      exact ⟨(A4, (n2 + n3), c4, (IntKind.i64.wrap (x1 + 1))), qaa, h.1, h.2⟩
    ·intro hb; refine qbs 28 (e := (x4 != 0)) (b := false) hb ?_
     replace h := h.2 (bne_false hb)
     refine qbr (qz (wp_cond_false (by kernel_rfl) (wp_skip (qz (qx (qbt 1 ?_))))))
     obtain ⟨x8, x9, d3, hl0, hx, h⟩ := h
     refine qq (qaq (cs := (([.int .i64 x8, .int .u32 x9] : List Value) ++ d3)) rfl Tryz.isAgg46 Tryz.sizeOf46 (by simp [hl0]) hx ?_)
     refine qq (qai (args := #[.agg (([.int .i64 x8, .int .u32 x9] : List Value) ++ d3).toArray]) rfl Tryz.call47 (Ret.mono h ?_))
     clear h; rintro r2 w7 ⟨A5, n4, c5, rfl, h⟩
     obtain ⟨l3, l4, h1, h2, h3, h4, h5, h6, h7, h⟩ := h
     refine qq (qad (A := A2) (n := n2) (c := c2) (B := A5) (m := n4) (c2 := c5) (olds := l3) (news := l4) rfl Tryz.underlying62 Tryz.underlying62 Tryz.typeInfo5 rfl (by decide) h1 h2 h3 h4 h5 h6 h7 ?_)
     intro A6 c6 w8 e1; replace h := h A6 c6 w8 e1
     refine qbr (qu (qz (qx (qbr (qz ?_)))))
     exact ⟨(A6, (n2 + n4), c6, (IntKind.i64.wrap (x1 + 1))), qaa, h.1, h.2⟩
   ·replace h := h.2 (of_decide_eq_false hb)
    refine wp_exit (qr (qr (block_exit_eq (qz (wp_seq (qx (qbt 1 (qq (qai (args := #[.slice A2 n2 c2, .int .i64 256]) rfl Tryz.call48 (Ret.mono h ?_))))))))))
    clear h; rintro r3 w9 ⟨A7, n5, c7, x10, rfl, h⟩
    refine qbr (qz (wp_ret ?_))
    exact qbh (v := .tuple #[.slice A7 n5 c7, .int .i64 x10]) h
def S_30 (A1 : Option Addr) (n1 c1 : Nat) (w : World) (Q : Value → World → Prop) : Prop :=
 ((n1 : Int) < 1 →
 Q (.tuple #[.slice none 0 0, .int .i64 1]) w) ∧
 (¬ (n1 : Int) < 1 →
 ((n1 : Int) > 6 →
 Q (.tuple #[.slice none 0 0, .int .i64 1]) w) ∧
 (¬ (n1 : Int) > 6 →
 ∀ b1 w1, b1 = w.heap.size → w1 = w.alloc (.cells #[.int .u8 (IntKind.u8.wrap (n1 : Int))] 5) →
 ∃ (I1 : (Option Addr) → Nat → Nat → Int → World → Prop) (μ1 : (Option Addr) → Nat → Nat → Int → World → Nat), I1 (some ⟨b1, 0, none⟩) 1 1 0 w1 ∧
 ∀ A2 n2 c2 x1 w2, I1 A2 n2 c2 x1 w2 →
 (x1 < (n1 : Int) →
 ∃ b2 o1, A1 = some ⟨b2, o1, none⟩ ∧ (0 : Int) ≤ x1 ∧ x1 < (n1 : Int) ∧
 ∃ x2, w2.cell? ⟨b2, (o1 + (x1).toNat * 34), none⟩ = some (.int .i64 x2) ∧
 (x2 < 0 →
 Q (.tuple #[.slice none 0 0, .int .i64 1]) w2) ∧
 (¬ x2 < 0 →
 (0 : Int) ≤ x1 ∧ x1 < (n1 : Int) ∧
 ∃ x3, w2.cell? ⟨b2, (o1 + (x1).toNat * 34), none⟩ = some (.int .i64 x3) ∧
 (x3 > 1 →
 Q (.tuple #[.slice none 0 0, .int .i64 1]) w2) ∧
 (¬ x3 > 1 →
 (0 : Int) ≤ x1 ∧ x1 < (n1 : Int) ∧
 ∃ (x4 : Int) (x5 : Int) (d1 : List Value), d1.length = 32 ∧ w2.rangeAt b2 (o1 + (x1).toNat * 34) (([.int .i64 x4, .int .u32 x5] : List Value) ++ d1) ∧
 Ret Tryz.prog 51 #[.agg (([.int .i64 x4, .int .u32 x5] : List Value) ++ d1).toArray] w2 fun r1 w3 => ∃ A3 n3 c3, r1 = .slice A3 n3 c3 ∧
 ∃ l1 l2 : List Value, (n2 + n3) * 1 ≤ 140737488355328 ∧ l1.length = n2 * 1 ∧ RdS w3 A2 l1 ∧ l2.length = n3 * 1 ∧ RdS w3 A3 l2 ∧ One l2 ∧ (n2 + n3 ≤ c2 → Room w3 A2 (n2 * 1) (n3 * 1)) ∧
 ∀ A4 c4 w4, Appended w3 5 1 #[.int .u8 0] A2 n2 c2 n3 l1 l2 A4 c4 w4 →
 I1 A4 (n2 + n3) c4 (IntKind.i64.wrap (x1 + 1)) w4 ∧ μ1 A4 (n2 + n3) c4 (IntKind.i64.wrap (x1 + 1)) w4 < μ1 A2 n2 c2 x1 w2))) ∧
 (¬ x1 < (n1 : Int) →
 ∃ (I2 : (Option Addr) → Nat → Nat → World → Prop) (μ2 : (Option Addr) → Nat → Nat → World → Nat), I2 A2 n2 c2 w2 ∧
 ∀ A5 n4 c5 w5, I2 A5 n4 c5 w5 →
 ((n4 : Int) < 256 →
 ∀ b3 w6, b3 = w5.heap.size → w6 = w5.alloc (.cells #[.int .u8 0] 5) →
 ∃ l3 l4 : List Value, (n4 + 1) * 1 ≤ 140737488355328 ∧ l3.length = n4 * 1 ∧ RdS w6 A5 l3 ∧ l4.length = 1 * 1 ∧ RdS w6 (some ⟨b3, 0, none⟩) l4 ∧ One l4 ∧ (n4 + 1 ≤ c5 → Room w6 A5 (n4 * 1) (1 * 1)) ∧
 ∀ A6 c6 w7, Appended w6 5 1 #[.int .u8 0] A5 n4 c5 1 l3 l4 A6 c6 w7 →
 I2 A6 (n4 + 1) c6 w7 ∧ μ2 A6 (n4 + 1) c6 w7 < μ2 A5 n4 c5 w5) ∧
 (¬ (n4 : Int) < 256 →
 Q (.tuple #[.slice A5 n4 c5, .int .i64 0]) w5))))
theorem L_30 (A1 : Option Addr) (n1 c1 : Nat) (w : World) (Q : Value → World → Prop) (h : S_30 A1 n1 c1 w Q) : Ret Tryz.prog 30 #[.slice A1 n1 c1] w Q := by
 unfold S_30 at h
 refine ret_of_wp Tryz.func30 rfl (wp_seq (qx (qbr (qz (wp_seq (wp_seq (qx (qbt 4 (wl_split (e := (decide ((n1 : Int) < 1))) ?_ ?_)))))))))
 ·intro hb; refine qbs 9 (e := (decide ((n1 : Int) < 1))) (b := true) hb ?_
  replace h := h.1 (of_decide_eq_true hb)
  refine qbr (qz (wp_cond_true (by kernel_rfl) (wp_seq (qx (qbr (qz (wp_ret (qs ?_))))))))
  exact qbh (v := .tuple #[.slice none 0 0, .int .i64 1]) h
 ·intro hb; refine qbs 9 (e := (decide ((n1 : Int) < 1))) (b := false) hb ?_
  replace h := h.2 (of_decide_eq_false hb)
  refine qbr (qz (wp_cond_split (t := (decide ((n1 : Int) > 6))) (by kernel_rfl) (fun hb => ?_) (fun hb => ?_)))
  ·replace h := h.1 (of_decide_eq_true hb)
   refine wp_seq (qx (qbr (qz (wp_ret (qs ?_)))))
   exact qbh (v := .tuple #[.slice none 0 0, .int .i64 1]) h
  ·replace h := h.2 (of_decide_eq_false hb)
   refine wp_skip (qz (wp_seq (qx (qbt 3 (qq (qag (cs := ([.int .u8 (IntKind.u8.wrap (n1 : Int))] : List Value)) rfl Tryz.underlying62 Tryz.sizeOf5 Tryz.zeroValue5 (by kernel_rfl) (by decide) (by decide) ?_))))))
   intro b1 w1 e1 e2; replace h := h b1 w1 e1 e2
   refine qbr (qz (wp_seq (wp_seq (qx (qbr (qz (wp_block ?_)))))))
   obtain ⟨I1, μ1, hI1, hB1⟩ := h
   refine wp_loop_st (σ := (Option Addr) × Nat × Nat × Int) (fun s a => ∃ u1 : Nat → Value, a = ⟨#[.slice A1 n1 c1, undef, u1 2, u1 3, .slice s.1 s.2.1 s.2.2.1, .int .i64 s.2.2.2, .slice A1 n1 c1, .int .i64 (n1 : Int), .bool (decide ((n1 : Int) < 1)), .bool false, .slice A1 n1 c1, .int .i64 (n1 : Int), .bool (decide ((n1 : Int) > 6)), .bool (decide ((n1 : Int) > 6)), .slice A1 n1 c1, .int .i64 (n1 : Int), .int .u8 (IntKind.u8.wrap (n1 : Int)), .slice (some ⟨b1, 0, none⟩) 1 1, u1 18, u1 19, u1 20, u1 21, u1 22, u1 23, u1 24, u1 25, u1 26, u1 27, u1 28, u1 29, u1 30, u1 31, u1 32, u1 33, u1 34, u1 35, u1 36, u1 37, u1 38, u1 39, u1 40, u1 41, u1 42, u1 43, u1 44, undef, undef, undef, undef, undef, undef, undef], []⟩) (fun s w => I1 s.1 s.2.1 s.2.2.1 s.2.2.2 w) (fun s w => μ1 s.1 s.2.1 s.2.2.1 s.2.2.2 w) ((some ⟨b1, 0, none⟩), 1, 1, 0) (qaa) hI1 ?_
   rintro ⟨A2, n2, c2, x1⟩ a w2 ⟨u1, rfl⟩ hI1
   have h := hB1 A2 n2 c2 x1 w2 hI1
   refine wp_seq (wp_seq (qx (qbr (qz (wp_cond_split (t := (decide (x1 < (n1 : Int)))) (by kernel_rfl) (fun hb => ?_) (fun hb => ?_))))))
   ·replace h := h.1 (of_decide_eq_true hb)
    refine wp_skip (qz (wp_seq (wp_block (wp_seq (wp_seq (qx (qbt 2 ?_)))))))
    obtain ⟨b2, o1, rfl, h⟩ := h
    obtain ⟨h1, h2, h⟩ := h
    refine qq (qan (k := .i64) (j := x1) (b := b2) (off := o1) (n := n1) (c := c1) rfl Tryz.underlying59 Tryz.sizeOf25 h1 h2 ?_)
    refine qbt 1 ?_
    obtain ⟨x2, hx, h⟩ := h
    refine qq (qap (v := .int .i64 x2) rfl Tryz.isAgg3 hx ?_)
    refine qbt 2 (wl_split (e := (decide (x2 < 0))) ?_ ?_)
    ·intro hb; refine qbs 30 (e := (decide (x2 < 0))) (b := true) hb ?_
     replace h := h.1 (of_decide_eq_true hb)
     refine qbr (qz (wp_cond_true (by kernel_rfl) (wp_seq (qx (qbr (qz (wp_ret (qs (block_ret (qs (qs (block_ret (qs ?_)))))))))))))
     exact qbh (v := .tuple #[.slice none 0 0, .int .i64 1]) h
    ·intro hb; refine qbs 30 (e := (decide (x2 < 0))) (b := false) hb ?_
     replace h := h.2 (of_decide_eq_false hb)
     refine qbt 2 ?_
     obtain ⟨h1, h2, h⟩ := h
     refine qq (qan (k := .i64) (j := x1) (b := b2) (off := o1) (n := n1) (c := c1) rfl Tryz.underlying59 Tryz.sizeOf25 h1 h2 ?_)
     refine qbt 1 ?_
     obtain ⟨x3, hx, h⟩ := h
     refine qq (qap (v := .int .i64 x3) rfl Tryz.isAgg3 hx ?_)
     refine qbr (qz (wp_cond_split (t := (decide (x3 > 1))) (by kernel_rfl) (fun hb => ?_) (fun hb => ?_)))
     ·replace h := h.1 (of_decide_eq_true hb)
      refine wp_seq (qx (qbr (qz (wp_ret (qs (block_ret (qs (qs (block_ret (qs ?_))))))))))
      exact qbh (v := .tuple #[.slice none 0 0, .int .i64 1]) h
     ·replace h := h.2 (of_decide_eq_false hb)
      refine wp_skip (qz (qx (qbt 3 ?_)))
      obtain ⟨h1, h2, h⟩ := h
      refine qq (qan (k := .i64) (j := x1) (b := b2) (off := o1) (n := n1) (c := c1) rfl Tryz.underlying59 Tryz.sizeOf25 h1 h2 ?_)
      obtain ⟨x4, x5, d1, hl0, hx, h⟩ := h
      refine qq (qaq (cs := (([.int .i64 x4, .int .u32 x5] : List Value) ++ d1)) rfl Tryz.isAgg25 Tryz.sizeOf25 (by simp [hl0]) hx ?_)
      refine qq (qai (args := #[.agg (([.int .i64 x4, .int .u32 x5] : List Value) ++ d1).toArray]) rfl Tryz.call51 (Ret.mono h ?_))
      clear h; rintro r1 w3 ⟨A3, n3, c3, rfl, h⟩
      obtain ⟨l1, l2, h1, h2, h3, h4, h5, h6, h7, h⟩ := h
      refine qq (qad (A := A2) (n := n2) (c := c2) (B := A3) (m := n3) (c2 := c3) (olds := l1) (news := l2) rfl Tryz.underlying62 Tryz.underlying62 Tryz.typeInfo5 rfl (by decide) h1 h2 h3 h4 h5 h6 h7 ?_)
      intro A4 c4 w4 e1; replace h := h A4 c4 w4 e1
      refine qbr (qu (qz (qx (qbr (qz ?_)))))
      exact ⟨(A4, (n2 + n3), c4, (IntKind.i64.wrap (x1 + 1))), qaa, h.1, h.2⟩
   ·replace h := h.2 (of_decide_eq_false hb)
    refine wp_exit (qr (qr (block_exit_eq (qz (wp_seq (wp_block ?_))))))
    obtain ⟨I2, μ2, hI2, hB2⟩ := h
    refine wp_loop_st (σ := (Option Addr) × Nat × Nat) (fun s a => ∃ u2 : Nat → Value, a = ⟨#[.slice A1 n1 c1, undef, u1 2, u1 3, .slice s.1 s.2.1 s.2.2, .int .i64 x1, .slice A1 n1 c1, .int .i64 (n1 : Int), .bool (decide ((n1 : Int) < 1)), .bool false, .slice A1 n1 c1, .int .i64 (n1 : Int), .bool (decide ((n1 : Int) > 6)), .bool (decide ((n1 : Int) > 6)), .slice A1 n1 c1, .int .i64 (n1 : Int), .int .u8 (IntKind.u8.wrap (n1 : Int)), .slice (some ⟨b1, 0, none⟩) 1 1, .int .i64 x1, .slice A1 n1 c1, .int .i64 (n1 : Int), .bool (decide (x1 < (n1 : Int))), u1 22, u1 23, u1 24, u1 25, u1 26, u1 27, u1 28, u1 29, u1 30, u1 31, u1 32, u1 33, u1 34, u1 35, u1 36, u1 37, u1 38, u1 39, u1 40, u1 41, u1 42, u1 43, u1 44, u2 45, u2 46, u2 47, u2 48, u2 49, u2 50, undef], []⟩) (fun s w => I2 s.1 s.2.1 s.2.2 w) (fun s w => μ2 s.1 s.2.1 s.2.2 w) (A2, n2, c2) (qaa) hI2 ?_
    rintro ⟨A5, n4, c5⟩ a w5 ⟨u2, rfl⟩ hI2
    have h := hB2 A5 n4 c5 w5 hI2
    refine wp_seq (wp_seq (qx (qbr (qz (wp_cond_split (t := (decide ((n4 : Int) < 256))) (by kernel_rfl) (fun hb => ?_) (fun hb => ?_))))))
    ·replace h := h.1 (of_decide_eq_true hb)
     refine wp_skip (qz (wp_block (qx (qbt 1 (qq (qag (cs := ([.int .u8 0] : List Value)) rfl Tryz.underlying62 Tryz.sizeOf5 Tryz.zeroValue5 (by kernel_rfl) (by decide) (by decide) ?_))))))
     intro b3 w6 e1 e2; replace h := h b3 w6 e1 e2
     obtain ⟨l3, l4, h1, h2, h3, h4, h5, h6, h7, h⟩ := h
     refine qq (qad (A := A5) (n := n4) (c := c5) (B := (some ⟨b3, 0, none⟩)) (m := 1) (c2 := 1) (olds := l3) (news := l4) rfl Tryz.underlying62 Tryz.underlying62 Tryz.typeInfo5 rfl (by decide) h1 h2 h3 h4 h5 h6 h7 ?_)
     intro A6 c6 w7 e1; replace h := h A6 c6 w7 e1
     refine qbr (qu (qz ?_))
     exact ⟨(A6, (n4 + 1), c6), qaa, h.1, h.2⟩
    ·replace h := h.2 (of_decide_eq_false hb)
     refine wp_exit (qr (qr (block_exit_eq (qz (wp_seq (qx (qbr (qz (wp_ret ?_)))))))))
     exact qbh (v := .tuple #[.slice A5 n4 c5, .int .i64 0]) h
def S_33 (d1 : List Value) (x1 x2 x3 : Int) (A1 : Option Addr) (n1 c1 : Nat) (w : World) (Q : Value → World → Prop) : Prop :=
 ∀ b1 w1, b1 = w.heap.size → w1 = w.alloc (.cells d1.toArray 22) →
 ∀ b2 w2, b2 = w1.heap.size → w2 = w1.alloc (.cells (([.int .i64 0, .int .u32 0] : List Value) ++ (List.replicate 32 (.int .u8 0 : Value))).toArray 25) →
 ∃ (d2 : List Value), d2.length = 32 ∧ w2.rangeAt b1 0 d2 ∧
 Ret Tryz.prog 52 #[.agg d2.toArray, .int .u32 x1, .int .i64 x3, .slice A1 n1 c1] w2 fun r1 w3 => ∃ A2 n2 c2 x4, r1 = .tuple #[.slice A2 n2 c2, .int .i64 x4] ∧
 (x4 ≠ 0 →
 w3.there b2 0 34 ∧
 ∀ w4, w4 = w3.setCells b2 0 (([.int .i64 0, .int .u32 0] : List Value) ++ (List.replicate 32 (.int .u8 0 : Value))) →
 ∃ (x5 : Int) (x6 : Int) (d3 : List Value), d3.length = 32 ∧ w4.rangeAt b2 0 (([.int .i64 x5, .int .u32 x6] : List Value) ++ d3) ∧ Q (.tuple #[.slice none 0 0, .agg (([.int .i64 x5, .int .u32 x6] : List Value) ++ d3).toArray, .int .i64 1]) w4) ∧
 (x4 = 0 →
 (x2 < 0 →
 w3.there b2 0 34 ∧
 ∀ w5, w5 = w3.setCells b2 0 (([.int .i64 0, .int .u32 0] : List Value) ++ (List.replicate 32 (.int .u8 0 : Value))) →
 ∃ (x7 : Int) (x8 : Int) (d4 : List Value), d4.length = 32 ∧ w5.rangeAt b2 0 (([.int .i64 x7, .int .u32 x8] : List Value) ++ d4) ∧ Q (.tuple #[.slice none 0 0, .agg (([.int .i64 x7, .int .u32 x8] : List Value) ++ d4).toArray, .int .i64 1]) w5) ∧
 (¬ x2 < 0 →
 (x2 > 1 →
 w3.there b2 0 34 ∧
 ∀ w6, w6 = w3.setCells b2 0 (([.int .i64 0, .int .u32 0] : List Value) ++ (List.replicate 32 (.int .u8 0 : Value))) →
 ∃ (x9 : Int) (x10 : Int) (d5 : List Value), d5.length = 32 ∧ w6.rangeAt b2 0 (([.int .i64 x9, .int .u32 x10] : List Value) ++ d5) ∧ Q (.tuple #[.slice none 0 0, .agg (([.int .i64 x9, .int .u32 x10] : List Value) ++ d5).toArray, .int .i64 1]) w6) ∧
 (¬ x2 > 1 →
 Ret Tryz.prog 53 #[.slice A2 n2 c2] w3 fun r2 w7 => ∃ (d6 : List Value), r2 = .agg d6.toArray ∧ d6.length = 32 ∧
 (([.int .i64 x2, .int .u32 x1] : List Value) ++ d6).length = 34 ∧ One (([.int .i64 x2, .int .u32 x1] : List Value) ++ d6) ∧ w7.there b2 0 34 ∧
 ∀ w8, w8 = w7.setCells b2 0 (([.int .i64 x2, .int .u32 x1] : List Value) ++ d6) →
 ∃ (x11 : Int) (x12 : Int) (d7 : List Value), d7.length = 32 ∧ w8.rangeAt b2 0 (([.int .i64 x11, .int .u32 x12] : List Value) ++ d7) ∧ Q (.tuple #[.slice A2 n2 c2, .agg (([.int .i64 x11, .int .u32 x12] : List Value) ++ d7).toArray, .int .i64 0]) w8)))
theorem L_33 (d1 : List Value) (x1 x2 x3 : Int) (A1 : Option Addr) (n1 c1 : Nat) (w : World) (Q : Value → World → Prop) (hp0 : d1.length = 32) (h : S_33 d1 x1 x2 x3 A1 n1 c1 w Q) : Ret Tryz.prog 33 #[.agg d1.toArray, .int .u32 x1, .int .i64 x2, .int .i64 x3, .slice A1 n1 c1] w Q := by
 unfold S_33 at h
 refine ret_of_wp Tryz.func33 rfl (wp_seq (qx (qq (qaf (v := .agg d1.toArray) rfl ?_))))
 intro b1 w1 e1 e2; replace h := h b1 w1 e1 e2
 refine qbt 1 (qq (qac rfl Tryz.zeroValue25 ?_))
 intro b2 w2 e1 e2; replace h := h b2 w2 e1 e2
 refine qbr (qz (wp_seq (qx ?_)))
 obtain ⟨d2, hl0, hx, h⟩ := h
 refine qq (qaq (cs := d2) rfl Tryz.isAgg22 Tryz.sizeOf22 (by simp [hl0]) hx ?_)
 refine qbt 3 (qq (qai (args := #[.agg d2.toArray, .int .u32 x1, .int .i64 x3, .slice A1 n1 c1]) rfl Tryz.call52 (Ret.mono h ?_)))
 clear h; rintro r1 w3 ⟨A2, n2, c2, x4, rfl, h⟩
 refine qbr (qz (wp_seq (wp_seq (qx (qbt 3 (wl_split (e := (x4 != 0)) ?_ ?_))))))
 ·intro hb; refine qbs 25 (e := (x4 != 0)) (b := true) hb ?_
  replace h := h.1 (bne_iff_ne.1 hb)
  refine qbr (qz (wp_cond_true (by kernel_rfl) (wp_seq (qx (qbt 2 ?_)))))
  obtain ⟨hw, h⟩ := h
  refine qq (qbd (cs := (([.int .i64 0, .int .u32 0] : List Value) ++ (List.replicate 32 (.int .u8 0 : Value)))) rfl Tryz.sizeOf25 rfl (qab) hw ?_)
  intro w4 e1; replace h := h w4 e1
  refine qbr (qz (wp_ret (qs ?_)))
  obtain ⟨x5, x6, d3, hl0_0, hx0, h⟩ := h
  exact qbi (vs := [.slice none 0 0, .agg (([.int .i64 x5, .int .u32 x6] : List Value) ++ d3).toArray, .int .i64 1]) (v := .tuple #[.slice none 0 0, .agg (([.int .i64 x5, .int .u32 x6] : List Value) ++ d3).toArray, .int .i64 1]) Tryz.results33 ⟨qbf, ⟨b2, 0, by kernel_rfl, run_loadN Tryz.isAgg25 Tryz.sizeOf25 (by simp [hl0_0]) hx0⟩, qbf, trivial⟩ h
 ·intro hb; refine qbs 25 (e := (x4 != 0)) (b := false) hb ?_
  replace h := h.2 (bne_false hb)
  refine qbt 4 (wl_split (e := (decide (x2 < 0))) ?_ ?_)
  ·intro hb; refine qbs 29 (e := (decide (x2 < 0))) (b := true) hb ?_
   replace h := h.1 (of_decide_eq_true hb)
   refine qbr (qz (wp_cond_true (by kernel_rfl) (wp_seq (qx (qbt 2 ?_)))))
   obtain ⟨hw, h⟩ := h
   refine qq (qbd (cs := (([.int .i64 0, .int .u32 0] : List Value) ++ (List.replicate 32 (.int .u8 0 : Value)))) rfl Tryz.sizeOf25 rfl (qab) hw ?_)
   intro w5 e1; replace h := h w5 e1
   refine qbr (qz (wp_ret (qs ?_)))
   obtain ⟨x7, x8, d4, hl0_0, hx0, h⟩ := h
   exact qbi (vs := [.slice none 0 0, .agg (([.int .i64 x7, .int .u32 x8] : List Value) ++ d4).toArray, .int .i64 1]) (v := .tuple #[.slice none 0 0, .agg (([.int .i64 x7, .int .u32 x8] : List Value) ++ d4).toArray, .int .i64 1]) Tryz.results33 ⟨qbf, ⟨b2, 0, by kernel_rfl, run_loadN Tryz.isAgg25 Tryz.sizeOf25 (by simp [hl0_0]) hx0⟩, qbf, trivial⟩ h
  ·intro hb; refine qbs 29 (e := (decide (x2 < 0))) (b := false) hb ?_
   replace h := h.2 (of_decide_eq_false hb)
   refine qbr (qz (wp_cond_split (t := (decide (x2 > 1))) (by kernel_rfl) (fun hb => ?_) (fun hb => ?_)))
   ·replace h := h.1 (of_decide_eq_true hb)
    refine wp_seq (qx (qbt 2 ?_))
    obtain ⟨hw, h⟩ := h
    refine qq (qbd (cs := (([.int .i64 0, .int .u32 0] : List Value) ++ (List.replicate 32 (.int .u8 0 : Value)))) rfl Tryz.sizeOf25 rfl (qab) hw ?_)
    intro w6 e1; replace h := h w6 e1
    refine qbr (qz (wp_ret (qs ?_)))
    obtain ⟨x9, x10, d5, hl0_0, hx0, h⟩ := h
    exact qbi (vs := [.slice none 0 0, .agg (([.int .i64 x9, .int .u32 x10] : List Value) ++ d5).toArray, .int .i64 1]) (v := .tuple #[.slice none 0 0, .agg (([.int .i64 x9, .int .u32 x10] : List Value) ++ d5).toArray, .int .i64 1]) Tryz.results33 ⟨qbf, ⟨b2, 0, by kernel_rfl, run_loadN Tryz.isAgg25 Tryz.sizeOf25 (by simp [hl0_0]) hx0⟩, qbf, trivial⟩ h
   ·replace h := h.2 (of_decide_eq_false hb)
    refine wp_skip (qz (wp_seq (qx (qbt 4 (qq (qai (args := #[.slice A2 n2 c2]) rfl Tryz.call53 (Ret.mono h ?_)))))))
    clear h; rintro r2 w7 ⟨d6, rfl, hl0, h⟩
    refine qq (qaw (v := .agg (([.int .i64 x2, .int .u32 x1] : List Value) ++ d6).toArray) (by obtain ⟨f0, rfl⟩ := exL (l := d6) (n := 32) (by assumption); kernel_rfl) ?_)
    refine qbt 1 ?_
    obtain ⟨hl, h1, hw, h⟩ := h
    refine qq (qbd (cs := (([.int .i64 x2, .int .u32 x1] : List Value) ++ d6)) rfl Tryz.sizeOf25 hl h1 hw ?_)
    intro w8 e1; replace h := h w8 e1
    refine qbr (qz (wp_ret ?_))
    obtain ⟨x11, x12, d7, hl0_0, hx0, h⟩ := h
    exact qbi (vs := [.slice A2 n2 c2, .agg (([.int .i64 x11, .int .u32 x12] : List Value) ++ d7).toArray, .int .i64 0]) (v := .tuple #[.slice A2 n2 c2, .agg (([.int .i64 x11, .int .u32 x12] : List Value) ++ d7).toArray, .int .i64 0]) Tryz.results33 ⟨qbf, ⟨b2, 0, by kernel_rfl, run_loadN Tryz.isAgg25 Tryz.sizeOf25 (by simp [hl0_0]) hx0⟩, qbf, trivial⟩ h
def S_46 (p1 : Option Addr) (d1 : List Value) (x1 x2 x3 : Int) (A1 : Option Addr) (n1 c1 : Nat) (w : World) (Q : Value → World → Prop) : Prop :=
 ∀ b1 w1, b1 = w.heap.size → w1 = w.alloc (.cells d1.toArray 22) →
 ∀ b2 w2, b2 = w1.heap.size → w2 = w1.alloc (.cells (([.int .i64 0, .int .u32 0] : List Value) ++ (List.replicate 32 (.int .u8 0 : Value))).toArray 46) →
 ∃ (d2 : List Value), d2.length = 32 ∧ w2.rangeAt b1 0 d2 ∧
 Ret Tryz.prog 60 #[.agg d2.toArray, .int .u32 x1, .int .i64 x3, .slice A1 n1 c1] w2 fun r1 w3 => ∃ A2 n2 c2 x4, r1 = .tuple #[.slice A2 n2 c2, .int .i64 x4] ∧
 (x4 ≠ 0 →
 w3.there b2 0 34 ∧
 ∀ w4, w4 = w3.setCells b2 0 (([.int .i64 0, .int .u32 0] : List Value) ++ (List.replicate 32 (.int .u8 0 : Value))) →
 ∃ (x5 : Int) (x6 : Int) (d3 : List Value), d3.length = 32 ∧ w4.rangeAt b2 0 (([.int .i64 x5, .int .u32 x6] : List Value) ++ d3) ∧ Q (.tuple #[.slice none 0 0, .agg (([.int .i64 x5, .int .u32 x6] : List Value) ++ d3).toArray, .int .i64 1]) w4) ∧
 (x4 = 0 →
 Ret Tryz.prog 61 #[.int .i64 x2] w3 fun r2 w5 => ∃ q1, r2 = .bool q1 ∧
 (q1 = false →
 w5.there b2 0 34 ∧
 ∀ w6, w6 = w5.setCells b2 0 (([.int .i64 0, .int .u32 0] : List Value) ++ (List.replicate 32 (.int .u8 0 : Value))) →
 ∃ (x7 : Int) (x8 : Int) (d4 : List Value), d4.length = 32 ∧ w6.rangeAt b2 0 (([.int .i64 x7, .int .u32 x8] : List Value) ++ d4) ∧ Q (.tuple #[.slice none 0 0, .agg (([.int .i64 x7, .int .u32 x8] : List Value) ++ d4).toArray, .int .i64 1]) w6) ∧
 (q1 = true →
 Ret Tryz.prog 62 #[.pointer p1, .slice A2 n2 c2] w5 fun r3 w7 => ∃ (d5 : List Value), r3 = .agg d5.toArray ∧ d5.length = 32 ∧
 (([.int .i64 x2, .int .u32 x1] : List Value) ++ d5).length = 34 ∧ One (([.int .i64 x2, .int .u32 x1] : List Value) ++ d5) ∧ w7.there b2 0 34 ∧
 ∀ w8, w8 = w7.setCells b2 0 (([.int .i64 x2, .int .u32 x1] : List Value) ++ d5) →
 ∃ (x9 : Int) (x10 : Int) (d6 : List Value), d6.length = 32 ∧ w8.rangeAt b2 0 (([.int .i64 x9, .int .u32 x10] : List Value) ++ d6) ∧ Q (.tuple #[.slice A2 n2 c2, .agg (([.int .i64 x9, .int .u32 x10] : List Value) ++ d6).toArray, .int .i64 0]) w8))
theorem L_46 (p1 : Option Addr) (d1 : List Value) (x1 x2 x3 : Int) (A1 : Option Addr) (n1 c1 : Nat) (w : World) (Q : Value → World → Prop) (hp0 : d1.length = 32) (h : S_46 p1 d1 x1 x2 x3 A1 n1 c1 w Q) : Ret Tryz.prog 46 #[.pointer p1, .agg d1.toArray, .int .u32 x1, .int .i64 x2, .int .i64 x3, .slice A1 n1 c1] w Q := by
 unfold S_46 at h
 refine ret_of_wp Tryz.func46 rfl (wp_seq (qx (qq (qaf (v := .agg d1.toArray) rfl ?_))))
 intro b1 w1 e1 e2; replace h := h b1 w1 e1 e2
 refine qbt 1 (qq (qac rfl Tryz.zeroValue46 ?_))
 intro b2 w2 e1 e2; replace h := h b2 w2 e1 e2
 refine qbr (qz (wp_seq (qx ?_)))
 obtain ⟨d2, hl0, hx, h⟩ := h
 refine qq (qaq (cs := d2) rfl Tryz.isAgg22 Tryz.sizeOf22 (by simp [hl0]) hx ?_)
 refine qbt 3 (qq (qai (args := #[.agg d2.toArray, .int .u32 x1, .int .i64 x3, .slice A1 n1 c1]) rfl Tryz.call60 (Ret.mono h ?_)))
 clear h; rintro r1 w3 ⟨A2, n2, c2, x4, rfl, h⟩
 refine qbr (qz (wp_seq (wp_seq (qx (qbt 3 (wl_split (e := (x4 != 0)) ?_ ?_))))))
 ·intro hb; refine qbs 27 (e := (x4 != 0)) (b := true) hb ?_
  replace h := h.1 (bne_iff_ne.1 hb)
  refine qbr (qz (wp_cond_true (by kernel_rfl) (wp_seq (qx (qbt 2 ?_)))))
  obtain ⟨hw, h⟩ := h
  refine qq (qbd (cs := (([.int .i64 0, .int .u32 0] : List Value) ++ (List.replicate 32 (.int .u8 0 : Value)))) rfl Tryz.sizeOf46 rfl (qab) hw ?_)
  intro w4 e1; replace h := h w4 e1
  refine qbr (qz (wp_ret (qs ?_)))
  obtain ⟨x5, x6, d3, hl0_0, hx0, h⟩ := h
  exact qbi (vs := [.slice none 0 0, .agg (([.int .i64 x5, .int .u32 x6] : List Value) ++ d3).toArray, .int .i64 1]) (v := .tuple #[.slice none 0 0, .agg (([.int .i64 x5, .int .u32 x6] : List Value) ++ d3).toArray, .int .i64 1]) Tryz.results46 ⟨qbf, ⟨b2, 0, by kernel_rfl, run_loadN Tryz.isAgg46 Tryz.sizeOf46 (by simp [hl0_0]) hx0⟩, qbf, trivial⟩ h
 ·intro hb; refine qbs 27 (e := (x4 != 0)) (b := false) hb ?_
  replace h := h.2 (bne_false hb)
  refine qbt 1 (qq (qai (args := #[.int .i64 x2]) rfl Tryz.call61 (Ret.mono h ?_)))
  clear h; rintro r2 w5 ⟨q1, rfl, h⟩
  refine qbr (qz (wp_cond_split (t := (!q1)) (by kernel_rfl) (fun hb => ?_) (fun hb => ?_)))
  ·replace h := h.1 ((not_flip hb))
   refine wp_seq (qx (qbt 2 ?_))
   obtain ⟨hw, h⟩ := h
   refine qq (qbd (cs := (([.int .i64 0, .int .u32 0] : List Value) ++ (List.replicate 32 (.int .u8 0 : Value)))) rfl Tryz.sizeOf46 rfl (qab) hw ?_)
   intro w6 e1; replace h := h w6 e1
   refine qbr (qz (wp_ret (qs ?_)))
   obtain ⟨x7, x8, d4, hl0_0, hx0, h⟩ := h
   exact qbi (vs := [.slice none 0 0, .agg (([.int .i64 x7, .int .u32 x8] : List Value) ++ d4).toArray, .int .i64 1]) (v := .tuple #[.slice none 0 0, .agg (([.int .i64 x7, .int .u32 x8] : List Value) ++ d4).toArray, .int .i64 1]) Tryz.results46 ⟨qbf, ⟨b2, 0, by kernel_rfl, run_loadN Tryz.isAgg46 Tryz.sizeOf46 (by simp [hl0_0]) hx0⟩, qbf, trivial⟩ h
  ·replace h := h.2 ((not_flip hb))
   refine wp_skip (qz (wp_seq (qx (qbt 5 (qq (qai (args := #[.pointer p1, .slice A2 n2 c2]) rfl Tryz.call62 (Ret.mono h ?_)))))))
   clear h; rintro r3 w7 ⟨d5, rfl, hl0, h⟩
   refine qq (qaw (v := .agg (([.int .i64 x2, .int .u32 x1] : List Value) ++ d5).toArray) (by obtain ⟨f0, rfl⟩ := exL (l := d5) (n := 32) (by assumption); kernel_rfl) ?_)
   refine qbt 1 ?_
   obtain ⟨hl, h1, hw, h⟩ := h
   refine qq (qbd (cs := (([.int .i64 x2, .int .u32 x1] : List Value) ++ d5)) rfl Tryz.sizeOf46 hl h1 hw ?_)
   intro w8 e1; replace h := h w8 e1
   refine qbr (qz (wp_ret ?_))
   obtain ⟨x9, x10, d6, hl0_0, hx0, h⟩ := h
   exact qbi (vs := [.slice A2 n2 c2, .agg (([.int .i64 x9, .int .u32 x10] : List Value) ++ d6).toArray, .int .i64 0]) (v := .tuple #[.slice A2 n2 c2, .agg (([.int .i64 x9, .int .u32 x10] : List Value) ++ d6).toArray, .int .i64 0]) Tryz.results46 ⟨qbf, ⟨b2, 0, by kernel_rfl, run_loadN Tryz.isAgg46 Tryz.sizeOf46 (by simp [hl0_0]) hx0⟩, qbf, trivial⟩ h
def S_47 (x1 x2 : Int) (d1 : List Value) (w : World) (Q : Value → World → Prop) : Prop :=
 ∀ b1 w1, b1 = w.heap.size → w1 = w.alloc (.cells (([.int .i64 x1, .int .u32 x2] : List Value) ++ d1).toArray 46) →
 ∀ w2, w2 = w1.drew →
 ∃ x3, w1.cell? ⟨b1, 0, none⟩ = some (.int .i64 x3) ∧
 ∃ x4, w1.cell? ⟨b1, 1, none⟩ = some (.int .u32 x4) ∧
 (0 : Int) ≤ 0 ∧ (0 : Int) ≤ 32 ∧ (32 : Int) ≤ 32 ∧ (32 : Int) ≤ 32 ∧
 ∀ A1, A1 = cutA (some ⟨b1, 2, none⟩) 0 32 1 →
 Ret Tryz.prog 63 #[.slice none 0 0, .int .u64 (IntKind.u64.wrap x3), .int .i64 1] w2 fun r1 w3 => ∃ A2 n1 c1, r1 = .slice A2 n1 c1 ∧
 Keep w1 w3 ∧
 Ret Tryz.prog 63 #[.slice A2 n1 c1, .int .u64 (IntKind.u64.wrap x4), .int .i64 4] w3 fun r2 w4 => ∃ A3 n2 c2, r2 = .slice A3 n2 c2 ∧
 ∃ l1 l2 : List Value, (n2 + (32 - 0)) * 1 ≤ 140737488355328 ∧ l1.length = n2 * 1 ∧ RdS w4 A3 l1 ∧ l2.length = (32 - 0) * 1 ∧ RdS w4 A1 l2 ∧ One l2 ∧ (n2 + (32 - 0) ≤ c2 → Room w4 A3 (n2 * 1) ((32 - 0) * 1)) ∧
 ∀ A4 c3 w5, Appended w4 5 1 #[.int .u8 0] A3 n2 c2 (32 - 0) l1 l2 A4 c3 w5 →
 Q (.slice A4 (n2 + (32 - 0)) c3) w5
theorem L_47 (x1 x2 : Int) (d1 : List Value) (w : World) (Q : Value → World → Prop) (hp0 : d1.length = 32) (h : S_47 x1 x2 d1 w Q) : Ret Tryz.prog 47 #[.agg (([.int .i64 x1, .int .u32 x2] : List Value) ++ d1).toArray] w Q := by
 unfold S_47 at h
 refine ret_of_wp Tryz.func47 rfl (wp_seq (qx (qq (qaf (v := .agg (([.int .i64 x1, .int .u32 x2] : List Value) ++ d1).toArray) rfl ?_))))
 intro b1 w1 e1 e2; replace h := h b1 w1 e1 e2
 refine qbr (qz (wp_seq (qbj (Keep w1) [7, 10] ?_)))
 intro w2 e1; have hK1 := keep_drew e1; replace h := h w2 e1
 refine qbo 0 rfl (qbz (v := .pointer (some ⟨b1, 0, none⟩))) ?_
 obtain ⟨x3, hx, h⟩ := h
 refine qbn 1 rfl (qbw (v := .int .i64 x3) rfl Tryz.isAgg3 (fun _ hk => keep_cell hk hx)) hK1 ?_
 refine qbo 2 rfl (qbz (v := .int .u64 (IntKind.u64.wrap x3))) (qbo 4 rfl (qbz (v := .pointer (some ⟨b1, 1, none⟩))) ?_)
 obtain ⟨x4, hx, h⟩ := h
 refine qbn 5 rfl (qbw (v := .int .u32 x4) rfl Tryz.isAgg23 (fun _ hk => keep_cell hk hx)) hK1 ?_
 refine qbo 6 rfl (qbz (v := .int .u64 (IntKind.u64.wrap x4))) (qbo 8 rfl (qbz (v := .pointer (some ⟨b1, 2, none⟩))) ?_)
 obtain ⟨h1, h2, h3, h4, h⟩ := h
 obtain ⟨A1, e1⟩ : ∃ A : Option Addr, A = cutA (some ⟨b1, 2, none⟩) (0 : Int).toNat (32 : Int).toNat 1 := ⟨_, rfl⟩
 refine qbo 9 rfl (qcd e1 (b := b1) (off := 2) (n := 32) (lo := 0) (hi := 32) (mx := 32) rfl (.inl ⟨rfl, rfl⟩) (.inl ⟨rfl, rfl⟩) (.inl ⟨rfl, rfl⟩) (by simp) Tryz.underlying22 Tryz.sizeOf5 h1 h2 h3 h4) ?_
 replace h := h A1 e1
 refine qbm 3 rfl (qai (args := #[.slice none 0 0, .int .u64 (IntKind.u64.wrap x3), .int .i64 1]) rfl Tryz.call63 (Ret.mono h ?_))
 clear h; rintro r1 w3 ⟨A2, n1, c1, rfl, h⟩
 obtain ⟨hK2, h⟩ := h
 refine ⟨fun _ _ => hK2, ?_⟩
 refine qbm 7 rfl (qai (args := #[.slice A2 n1 c1, .int .u64 (IntKind.u64.wrap x4), .int .i64 4]) rfl Tryz.call63 (Ret.mono h ?_))
 clear h; rintro r2 w4 ⟨A3, n2, c2, rfl, h⟩
 refine ⟨fun hh => absurd hh (by decide), ?_⟩
 obtain ⟨l1, l2, h1, h2, h3, h4, h5, h6, h7, h⟩ := h
 refine qbm 10 rfl (qad (A := A3) (n := n2) (c := c2) (B := A1) (m := (32 - 0)) (c2 := (32 - 0)) (olds := l1) (news := l2) rfl Tryz.underlying62 Tryz.underlying62 Tryz.typeInfo5 rfl (by decide) h1 h2 h3 h4 h5 h6 h7 ?_)
 intro A4 c3 w5 e1; replace h := h A4 c3 w5 e1
 refine ⟨fun hh => absurd hh (by decide), ?_⟩
 refine qbo 11 rfl (qbz (v := .slice A4 (n2 + (32 - 0)) c3)) (qbk (qz (wp_ret ?_)))
 exact qbh (v := .slice A4 (n2 + (32 - 0)) c3) h
def S_51 (x1 x2 : Int) (d1 : List Value) (w : World) (Q : Value → World → Prop) : Prop :=
 ∀ b1 w1, b1 = w.heap.size → w1 = w.alloc (.cells (([.int .i64 x1, .int .u32 x2] : List Value) ++ d1).toArray 25) →
 ∃ x3, w1.cell? ⟨b1, 0, none⟩ = some (.int .i64 x3) ∧
 ∀ b2 w2, b2 = w1.heap.size → w2 = w1.alloc (.cells #[.int .u8 (IntKind.u8.wrap x3)] 5) →
 ∃ (I1 : (Option Addr) → Nat → Nat → Int → World → Prop) (μ1 : (Option Addr) → Nat → Nat → Int → World → Nat), I1 (some ⟨b2, 0, none⟩) 1 1 0 w2 ∧
 ∀ A1 n1 c1 x4 w3, I1 A1 n1 c1 x4 w3 →
 (x4 < 4 →
 ∃ x5, w3.cell? ⟨b1, 1, none⟩ = some (.int .u32 x5) ∧
 0 ≤ (IntKind.i64.wrap (8 * x4)) ∧
 ∀ b3 w4, b3 = w3.heap.size → w4 = w3.alloc (.cells #[.int .u8 (IntKind.u8.wrap (iShr .u32 x5 (IntKind.i64.wrap (8 * x4))))] 5) →
 ∃ l1 l2 : List Value, (n1 + 1) * 1 ≤ 140737488355328 ∧ l1.length = n1 * 1 ∧ RdS w4 A1 l1 ∧ l2.length = 1 * 1 ∧ RdS w4 (some ⟨b3, 0, none⟩) l2 ∧ One l2 ∧ (n1 + 1 ≤ c1 → Room w4 A1 (n1 * 1) (1 * 1)) ∧
 ∀ A2 c2 w5, Appended w4 5 1 #[.int .u8 0] A1 n1 c1 1 l1 l2 A2 c2 w5 →
 I1 A2 (n1 + 1) c2 (IntKind.i64.wrap (x4 + 1)) w5 ∧ μ1 A2 (n1 + 1) c2 (IntKind.i64.wrap (x4 + 1)) w5 < μ1 A1 n1 c1 x4 w3) ∧
 (¬ x4 < 4 →
 (0 : Int) ≤ 0 ∧ (0 : Int) ≤ 32 ∧ (32 : Int) ≤ 32 ∧ (32 : Int) ≤ 32 ∧
 ∀ A3, A3 = cutA (some ⟨b1, 2, none⟩) 0 32 1 →
 ∃ l3 l4 : List Value, (n1 + (32 - 0)) * 1 ≤ 140737488355328 ∧ l3.length = n1 * 1 ∧ RdS w3 A1 l3 ∧ l4.length = (32 - 0) * 1 ∧ RdS w3 A3 l4 ∧ One l4 ∧ (n1 + (32 - 0) ≤ c1 → Room w3 A1 (n1 * 1) ((32 - 0) * 1)) ∧
 ∀ A4 c3 w6, Appended w3 5 1 #[.int .u8 0] A1 n1 c1 (32 - 0) l3 l4 A4 c3 w6 →
 Q (.slice A4 (n1 + (32 - 0)) c3) w6)
theorem L_51 (x1 x2 : Int) (d1 : List Value) (w : World) (Q : Value → World → Prop) (hp0 : d1.length = 32) (h : S_51 x1 x2 d1 w Q) : Ret Tryz.prog 51 #[.agg (([.int .i64 x1, .int .u32 x2] : List Value) ++ d1).toArray] w Q := by
 unfold S_51 at h
 refine ret_of_wp Tryz.func51 rfl (wp_seq (qx (qq (qaf (v := .agg (([.int .i64 x1, .int .u32 x2] : List Value) ++ d1).toArray) rfl ?_))))
 intro b1 w1 e1 e2; replace h := h b1 w1 e1 e2
 refine qbr (qz (wp_seq (qx (qbt 1 ?_))))
 obtain ⟨x3, hx, h⟩ := h
 refine qq (qap (v := .int .i64 x3) rfl Tryz.isAgg3 hx ?_)
 refine qbt 1 (qq (qag (cs := ([.int .u8 (IntKind.u8.wrap x3)] : List Value)) rfl Tryz.underlying62 Tryz.sizeOf5 Tryz.zeroValue5 (by kernel_rfl) (by decide) (by decide) ?_))
 intro b2 w2 e1 e2; replace h := h b2 w2 e1 e2
 refine qbr (qz (wp_seq (wp_seq (qx (qbr (qz (wp_block ?_)))))))
 obtain ⟨I1, μ1, hI1, hB1⟩ := h
 refine wp_loop_st (σ := (Option Addr) × Nat × Nat × Int) (fun s a => ∃ u1 : Nat → Value, a = ⟨#[.agg (([.int .i64 x1, .int .u32 x2] : List Value) ++ d1).toArray, .pointer (some ⟨b1, 0, none⟩), .slice none 0 0, .slice s.1 s.2.1 s.2.2.1, .int .i64 s.2.2.2, .pointer (some ⟨b1, 0, none⟩), .int .i64 x3, .int .u8 (IntKind.u8.wrap x3), .slice (some ⟨b2, 0, none⟩) 1 1, u1 9, u1 10, u1 11, u1 12, u1 13, u1 14, u1 15, u1 16, u1 17, u1 18, u1 19, u1 20, u1 21, undef, undef, undef, undef], []⟩) (fun s w => I1 s.1 s.2.1 s.2.2.1 s.2.2.2 w) (fun s w => μ1 s.1 s.2.1 s.2.2.1 s.2.2.2 w) ((some ⟨b2, 0, none⟩), 1, 1, 0) (qaa) hI1 ?_
 rintro ⟨A1, n1, c1, x4⟩ a w3 ⟨u1, rfl⟩ hI1
 have h := hB1 A1 n1 c1 x4 w3 hI1
 refine wp_seq (wp_seq (qx (qbr (qz (wp_cond_split (t := (decide (x4 < 4))) (by kernel_rfl) (fun hb => ?_) (fun hb => ?_))))))
 ·replace h := h.1 (of_decide_eq_true hb)
  refine wp_skip (qz (wp_seq (wp_block (qx (qbt 2 ?_)))))
  obtain ⟨x5, hx, h⟩ := h
  refine qq (qap (v := .int .u32 x5) rfl Tryz.isAgg23 hx ?_)
  refine qbt 2 ?_
  obtain ⟨h1, h⟩ := h
  refine qq (qaz (k := .u32) (k2 := .i64) (x := x5) (y := (IntKind.i64.wrap (8 * x4))) rfl h1 ?_)
  refine qbt 1 (qq (qag (cs := ([.int .u8 (IntKind.u8.wrap (iShr .u32 x5 (IntKind.i64.wrap (8 * x4))))] : List Value)) rfl Tryz.underlying62 Tryz.sizeOf5 Tryz.zeroValue5 (by kernel_rfl) (by decide) (by decide) ?_))
  intro b3 w4 e1 e2; replace h := h b3 w4 e1 e2
  obtain ⟨l1, l2, h1, h2, h3, h4, h5, h6, h7, h⟩ := h
  refine qq (qad (A := A1) (n := n1) (c := c1) (B := (some ⟨b3, 0, none⟩)) (m := 1) (c2 := 1) (olds := l1) (news := l2) rfl Tryz.underlying62 Tryz.underlying62 Tryz.typeInfo5 rfl (by decide) h1 h2 h3 h4 h5 h6 h7 ?_)
  intro A2 c2 w5 e1; replace h := h A2 c2 w5 e1
  refine qbr (qu (qz (qx (qbr (qz ?_)))))
  exact ⟨(A2, (n1 + 1), c2, (IntKind.i64.wrap (x4 + 1))), qaa, h.1, h.2⟩
 ·replace h := h.2 (of_decide_eq_false hb)
  refine wp_exit (qr (qr (block_exit_eq (qz (wp_seq (qx (qbt 2 ?_)))))))
  obtain ⟨h1, h2, h3, h4, h⟩ := h
  refine qq (qbb (b := b1) (off := 2) (n := 32) (lo := 0) (hi := 32) (mx := 32) rfl (.inl ⟨rfl, rfl⟩) (.inl ⟨rfl, rfl⟩) (.inl ⟨rfl, rfl⟩) (by simp) Tryz.underlying22 Tryz.sizeOf5 h1 h2 h3 h4 ?_)
  intro A3 e1; replace h := h A3 e1
  obtain ⟨l3, l4, h1, h2, h3, h4, h5, h6, h7, h⟩ := h
  refine qq (qad (A := A1) (n := n1) (c := c1) (B := A3) (m := (32 - 0)) (c2 := (32 - 0)) (olds := l3) (news := l4) rfl Tryz.underlying62 Tryz.underlying62 Tryz.typeInfo5 rfl (by decide) h1 h2 h3 h4 h5 h6 h7 ?_)
  intro A4 c3 w6 e1; replace h := h A4 c3 w6 e1
  refine qbr (qz (wp_ret ?_))
  exact qbh (v := .slice A4 (n1 + (32 - 0)) c3) h
def S_52 (d1 : List Value) (x1 x2 : Int) (A1 : Option Addr) (n1 c1 : Nat) (w : World) (Q : Value → World → Prop) : Prop :=
 ∀ b1 w1, b1 = w.heap.size → w1 = w.alloc (.cells d1.toArray 22) →
 ((n1 : Int) ≠ 256 →
 Q (.tuple #[.slice none 0 0, .int .i64 1]) w1) ∧
 ((n1 : Int) = 256 →
 (x2 < 0 →
 Q (.tuple #[.slice none 0 0, .int .i64 1]) w1) ∧
 (¬ x2 < 0 →
 ∀ w2, w2 = w1.drew →
 ∃ (d2 : List Value), d2.length = 32 ∧ w1.rangeAt b1 0 d2 ∧
 Ret Tryz.prog 66 #[.int .u32 x1, .int .u64 (IntKind.u64.wrap x2)] w2 fun r1 w3 => ∃ (d3 : List Value), r1 = .agg d3.toArray ∧ d3.length = 12 ∧
 Keep w1 w3 ∧
 Ret Tryz.prog 65 #[.agg d2.toArray, .agg d3.toArray, .int .u32 0, .slice A1 n1 c1] w3 fun r2 w4 => ∃ A2 n2 c2, r2 = .slice A2 n2 c2 ∧
 Q (.tuple #[.slice A2 n2 c2, .int .i64 0]) w4))
theorem L_52 (d1 : List Value) (x1 x2 : Int) (A1 : Option Addr) (n1 c1 : Nat) (w : World) (Q : Value → World → Prop) (hp0 : d1.length = 32) (h : S_52 d1 x1 x2 A1 n1 c1 w Q) : Ret Tryz.prog 52 #[.agg d1.toArray, .int .u32 x1, .int .i64 x2, .slice A1 n1 c1] w Q := by
 unfold S_52 at h
 refine ret_of_wp Tryz.func52 rfl (wp_seq (qx (qq (qaf (v := .agg d1.toArray) rfl ?_))))
 intro b1 w1 e1 e2; replace h := h b1 w1 e1 e2
 refine qbr (qz (wp_seq (wp_seq (qx (qbt 4 (wl_split (e := ((n1 : Int) != 256)) ?_ ?_))))))
 ·intro hb; refine qbs 13 (e := ((n1 : Int) != 256)) (b := true) hb ?_
  replace h := h.1 (bne_iff_ne.1 hb)
  refine qbr (qz (wp_cond_true (by kernel_rfl) (wp_seq (qx (qbr (qz (wp_ret (qs ?_))))))))
  exact qbh (v := .tuple #[.slice none 0 0, .int .i64 1]) h
 ·intro hb; refine qbs 13 (e := ((n1 : Int) != 256)) (b := false) hb ?_
  replace h := h.2 (bne_false hb)
  refine qbr (qz (wp_cond_split (t := (decide (x2 < 0))) (by kernel_rfl) (fun hb => ?_) (fun hb => ?_)))
  ·replace h := h.1 (of_decide_eq_true hb)
   refine wp_seq (qx (qbr (qz (wp_ret (qs ?_)))))
   exact qbh (v := .tuple #[.slice none 0 0, .int .i64 1]) h
  ·replace h := h.2 (of_decide_eq_false hb)
   refine wp_skip (qz (wp_seq (qbj (Keep w1) [6] ?_)))
   intro w2 e1; have hK1 := keep_drew e1; replace h := h w2 e1
   obtain ⟨d2, hl0, hx, h⟩ := h
   refine qbn 0 rfl (qbx (cs := d2) rfl Tryz.isAgg22 Tryz.sizeOf22 (by simp [hl0]) (fun _ hk => keep_range hk hx)) hK1 ?_
   refine qbo 1 rfl (qbz (v := .int .u32 x1)) (qbo 2 rfl (qbz (v := .int .i64 x2)) (qbo 3 rfl (qbz (v := .int .u64 (IntKind.u64.wrap x2))) (qbo 5 rfl (qbz (v := .slice A1 n1 c1)) (qbm 4 rfl (qai (args := #[.int .u32 x1, .int .u64 (IntKind.u64.wrap x2)]) rfl Tryz.call66 (Ret.mono h ?_))))))
   clear h; rintro r1 w3 ⟨d3, rfl, hl0, h⟩
   obtain ⟨hK2, h⟩ := h
   refine ⟨fun _ _ => hK2, ?_⟩
   refine qbm 6 rfl (qai (args := #[.agg d2.toArray, .agg d3.toArray, .int .u32 0, .slice A1 n1 c1]) rfl Tryz.call65 (Ret.mono h ?_))
   clear h; rintro r2 w4 ⟨A2, n2, c2, rfl, h⟩
   refine ⟨fun hh => absurd hh (by decide), ?_⟩
   refine qbo 7 rfl (qbz (v := .slice A2 n2 c2)) (qbo 8 rfl (qbz (v := .int .i64 0)) (qbk (qz (wp_ret ?_))))
   exact qbh (v := .tuple #[.slice A2 n2 c2, .int .i64 0]) h
def S_60 (d1 : List Value) (x1 x2 : Int) (A1 : Option Addr) (n1 c1 : Nat) (w : World) (Q : Value → World → Prop) : Prop :=
 ∀ b1 w1, b1 = w.heap.size → w1 = w.alloc (.cells d1.toArray 22) →
 ((n1 : Int) ≠ 256 →
 Q (.tuple #[.slice none 0 0, .int .i64 1]) w1) ∧
 ((n1 : Int) = 256 →
 (x2 < 0 →
 Q (.tuple #[.slice none 0 0, .int .i64 1]) w1) ∧
 (¬ x2 < 0 →
 ∀ w2, w2 = w1.drew →
 ∃ (d2 : List Value), d2.length = 32 ∧ w1.rangeAt b1 0 d2 ∧
 Ret Tryz.prog 76 #[.int .u32 x1, .int .u64 (IntKind.u64.wrap x2)] w2 fun r1 w3 => ∃ (d3 : List Value), r1 = .agg d3.toArray ∧ d3.length = 12 ∧
 Keep w1 w3 ∧
 Ret Tryz.prog 75 #[.agg d2.toArray, .agg d3.toArray, .int .u32 0, .slice A1 n1 c1] w3 fun r2 w4 => ∃ A2 n2 c2, r2 = .slice A2 n2 c2 ∧
 Q (.tuple #[.slice A2 n2 c2, .int .i64 0]) w4))
theorem L_60 (d1 : List Value) (x1 x2 : Int) (A1 : Option Addr) (n1 c1 : Nat) (w : World) (Q : Value → World → Prop) (hp0 : d1.length = 32) (h : S_60 d1 x1 x2 A1 n1 c1 w Q) : Ret Tryz.prog 60 #[.agg d1.toArray, .int .u32 x1, .int .i64 x2, .slice A1 n1 c1] w Q := by
 unfold S_60 at h
 refine ret_of_wp Tryz.func60 rfl (wp_seq (qx (qq (qaf (v := .agg d1.toArray) rfl ?_))))
 intro b1 w1 e1 e2; replace h := h b1 w1 e1 e2
 refine qbr (qz (wp_seq (wp_seq (qx (qbt 4 (wl_split (e := ((n1 : Int) != 256)) ?_ ?_))))))
 ·intro hb; refine qbs 13 (e := ((n1 : Int) != 256)) (b := true) hb ?_
  replace h := h.1 (bne_iff_ne.1 hb)
  refine qbr (qz (wp_cond_true (by kernel_rfl) (wp_seq (qx (qbr (qz (wp_ret (qs ?_))))))))
  exact qbh (v := .tuple #[.slice none 0 0, .int .i64 1]) h
 ·intro hb; refine qbs 13 (e := ((n1 : Int) != 256)) (b := false) hb ?_
  replace h := h.2 (bne_false hb)
  refine qbr (qz (wp_cond_split (t := (decide (x2 < 0))) (by kernel_rfl) (fun hb => ?_) (fun hb => ?_)))
  ·replace h := h.1 (of_decide_eq_true hb)
   refine wp_seq (qx (qbr (qz (wp_ret (qs ?_)))))
   exact qbh (v := .tuple #[.slice none 0 0, .int .i64 1]) h
  ·replace h := h.2 (of_decide_eq_false hb)
   refine wp_skip (qz (wp_seq (qbj (Keep w1) [6] ?_)))
   intro w2 e1; have hK1 := keep_drew e1; replace h := h w2 e1
   obtain ⟨d2, hl0, hx, h⟩ := h
   refine qbn 0 rfl (qbx (cs := d2) rfl Tryz.isAgg22 Tryz.sizeOf22 (by simp [hl0]) (fun _ hk => keep_range hk hx)) hK1 ?_
   refine qbo 1 rfl (qbz (v := .int .u32 x1)) (qbo 2 rfl (qbz (v := .int .i64 x2)) (qbo 3 rfl (qbz (v := .int .u64 (IntKind.u64.wrap x2))) (qbo 5 rfl (qbz (v := .slice A1 n1 c1)) (qbm 4 rfl (qai (args := #[.int .u32 x1, .int .u64 (IntKind.u64.wrap x2)]) rfl Tryz.call76 (Ret.mono h ?_))))))
   clear h; rintro r1 w3 ⟨d3, rfl, hl0, h⟩
   obtain ⟨hK2, h⟩ := h
   refine ⟨fun _ _ => hK2, ?_⟩
   refine qbm 6 rfl (qai (args := #[.agg d2.toArray, .agg d3.toArray, .int .u32 0, .slice A1 n1 c1]) rfl Tryz.call75 (Ret.mono h ?_))
   clear h; rintro r2 w4 ⟨A2, n2, c2, rfl, h⟩
   refine ⟨fun hh => absurd hh (by decide), ?_⟩
   refine qbo 7 rfl (qbz (v := .slice A2 n2 c2)) (qbo 8 rfl (qbz (v := .int .i64 0)) (qbk (qz (wp_ret ?_))))
   exact qbh (v := .tuple #[.slice A2 n2 c2, .int .i64 0]) h
def S_61 (x1 : Int) (w : World) (Q : Value → World → Prop) : Prop :=
 (x1 = 0 →
 Q (.bool true) w) ∧
 (x1 ≠ 0 →
 Q (.bool (x1 == 1)) w)
theorem L_61 (x1 : Int) (w : World) (Q : Value → World → Prop) (h : S_61 x1 w Q) : Ret Tryz.prog 61 #[.int .i64 x1] w Q := by
 unfold S_61 at h
 refine ret_of_wp Tryz.func61 rfl (wp_seq (qx (qbr (qz (wp_seq (qx (qbt 3 (wl_split (e := (x1 == 0)) ?_ ?_))))))))
 ·intro hb; refine qbs 5 (e := (x1 == 0)) (b := true) hb ?_
  replace h := h.1 (eq_of_beq hb)
  refine qbr (qz (wp_ret ?_))
  exact qbh (v := .bool true) h
 ·intro hb; refine qbs 5 (e := (x1 == 0)) (b := false) hb ?_
  replace h := h.2 (ne_of_beq_false hb)
  refine qbr (qz (wp_ret ?_))
  exact qbh (v := .bool (x1 == 1)) h
def S_62 (p1 A1 : Option Addr) (n1 c1 : Nat) (w : World) (Q : Value → World → Prop) : Prop :=
 ∀ b1 w1, b1 = w.heap.size → w1 = w.alloc (.cells (List.replicate 32 (.int .u8 0 : Value)).toArray 22) →
 (p1 ≠ none →
 ∃ b2 o1, p1 = some ⟨b2, o1, none⟩ ∧
 ∃ A2 n2 c2, w1.cell? ⟨b2, o1, none⟩ = some (.slice A2 n2 c2) ∧
 ((n2 : Int) < 100000 →
 ∀ w2, w2 = w1.drew →
 ∃ A3 n3 c3, w1.cell? ⟨b2, o1, none⟩ = some (.slice A3 n3 c3) ∧
 Ret Tryz.prog 64 #[.slice A1 n1 c1] w2 fun r1 w3 => ∃ A4 n4 c4, r1 = .slice A4 n4 c4 ∧
 Keep w1 w3 ∧
 ∀ b3 w4, b3 = w3.heap.size → w4 = w3.alloc (.cells #[.slice A4 n4 c4] 62) →
 Keep w1 w4 ∧
 ∃ l1 l2 : List Value, (n3 + 1) * 24 ≤ 140737488355328 ∧ l1.length = n3 * 1 ∧ RdS w4 A3 l1 ∧ l2.length = 1 * 1 ∧ RdS w4 (some ⟨b3, 0, none⟩) l2 ∧ One l2 ∧ (n3 + 1 ≤ c3 → Room w4 A3 (n3 * 1) (1 * 1)) ∧
 ∀ A5 c5 w5, Appended w4 62 1 #[.slice none 0 0] A3 n3 c3 1 l1 l2 A5 c5 w5 →
 (w5.cell? ⟨b2, o1, none⟩).isSome = true ∧ w5.frozen? ⟨b2, o1, none⟩ = false ∧
 ∀ w6, w6 = w5.setCell ⟨b2, o1, none⟩ (.slice A5 (n3 + 1) c5) →
 ∀ b4 w7, b4 = w6.heap.size → w7 = w6.alloc (.cells #[.slice A1 n1 c1] 62) →
 Ret Tryz.prog 77 #[.slice (some ⟨b4, 0, none⟩) 1 1] w7 fun r2 w8 => ∃ (d1 : List Value), r2 = .agg d1.toArray ∧ d1.length = 32 ∧
 d1.length = 32 ∧ One d1 ∧ w8.there b1 0 32 ∧
 ∀ w9, w9 = w8.setCells b1 0 d1 →
 ∃ (d2 : List Value), d2.length = 32 ∧ w9.rangeAt b1 0 d2 ∧ Q (.agg d2.toArray) w9) ∧
 (¬ (n2 : Int) < 100000 →
 ∀ b5 w10, b5 = w1.heap.size → w10 = w1.alloc (.cells #[.slice A1 n1 c1] 62) →
 Ret Tryz.prog 77 #[.slice (some ⟨b5, 0, none⟩) 1 1] w10 fun r3 w11 => ∃ (d3 : List Value), r3 = .agg d3.toArray ∧ d3.length = 32 ∧
 d3.length = 32 ∧ One d3 ∧ w11.there b1 0 32 ∧
 ∀ w12, w12 = w11.setCells b1 0 d3 →
 ∃ (d4 : List Value), d4.length = 32 ∧ w12.rangeAt b1 0 d4 ∧ Q (.agg d4.toArray) w12)) ∧
 (p1 = none →
 ∀ b6 w13, b6 = w1.heap.size → w13 = w1.alloc (.cells #[.slice A1 n1 c1] 62) →
 Ret Tryz.prog 77 #[.slice (some ⟨b6, 0, none⟩) 1 1] w13 fun r4 w14 => ∃ (d5 : List Value), r4 = .agg d5.toArray ∧ d5.length = 32 ∧
 d5.length = 32 ∧ One d5 ∧ w14.there b1 0 32 ∧
 ∀ w15, w15 = w14.setCells b1 0 d5 →
 ∃ (d6 : List Value), d6.length = 32 ∧ w15.rangeAt b1 0 d6 ∧ Q (.agg d6.toArray) w15)
theorem L_62 (p1 A1 : Option Addr) (n1 c1 : Nat) (w : World) (Q : Value → World → Prop) (h : S_62 p1 A1 n1 c1 w Q) : Ret Tryz.prog 62 #[.pointer p1, .slice A1 n1 c1] w Q := by
 unfold S_62 at h
 refine ret_of_wp Tryz.func62 rfl (wp_seq (qx (qq (qac rfl Tryz.zeroValue22 ?_))))
 intro b1 w1 e1 e2; replace h := h b1 w1 e1 e2
 refine qo (qz (wp_seq (wp_seq (qx (qbt 1 (qq (qav (p := p1) rfl Tryz.underlying72 ?_)))))))
 refine qbt 1 (wl_split (e := (!p1.isNone)) ?_ ?_)
 ·intro hb; refine qbs 7 (e := (!p1.isNone)) (b := true) hb ?_
  replace h := h.1 (ne_none_of (not_flip hb))
  refine qbt 1 ?_
  obtain ⟨b2, o1, rfl, h⟩ := h
  refine qq (qaw (v := .pointer (some ⟨b2, o1, none⟩)) (by kernel_rfl) ?_)
  refine qbt 1 ?_
  obtain ⟨A2, n2, c2, hx, h⟩ := h
  refine qq (qap (v := .slice A2 n2 c2) rfl Tryz.isAgg140 hx ?_)
  refine qbr (qz (wp_cond_split (t := (decide ((n2 : Int) < 100000))) (by kernel_rfl) (fun hb => ?_) (fun hb => ?_)))
  ·replace h := h.1 (of_decide_eq_true hb)
   refine qbj (Keep w1) [8, 11] ?_
   intro w2 e1; have hK1 := keep_drew e1; replace h := h w2 e1
   refine qbo 0 rfl (qbz (v := .pointer (some ⟨b2, o1, none⟩))) (qbo 1 rfl (qbz (v := .pointer (some ⟨b2, o1, none⟩))) (qbo 2 rfl (qbz (v := .pointer (some ⟨b2, o1, none⟩))) (qbo 3 rfl (qbz (v := .pointer (some ⟨b2, o1, none⟩))) ?_)))
   obtain ⟨A3, n3, c3, hx, h⟩ := h
   refine qbn 4 rfl (qbw (v := .slice A3 n3 c3) rfl Tryz.isAgg140 (fun _ hk => keep_cell hk hx)) hK1 ?_
   refine qbo 5 rfl (qbz (v := .slice A1 n1 c1)) (qbm 6 rfl (qai (args := #[.slice A1 n1 c1]) rfl Tryz.call64 (Ret.mono h ?_)))
   clear h; rintro r1 w3 ⟨A4, n4, c4, rfl, h⟩
   obtain ⟨hK2, h⟩ := h
   refine ⟨fun _ _ => hK2, ?_⟩
   refine qbm 7 rfl (qag (cs := ([.slice A4 n4 c4] : List Value)) rfl Tryz.underlying140 Tryz.sizeOf62 Tryz.zeroValue62 (by kernel_rfl) (by decide) (by decide) ?_)
   intro b3 w4 e1 e2; replace h := h b3 w4 e1 e2
   obtain ⟨hK3, h⟩ := h
   refine ⟨fun _ _ => hK3, ?_⟩
   obtain ⟨l1, l2, h1, h2, h3, h4, h5, h6, h7, h⟩ := h
   refine qbm 8 rfl (qad (A := A3) (n := n3) (c := c3) (B := (some ⟨b3, 0, none⟩)) (m := 1) (c2 := 1) (olds := l1) (news := l2) rfl Tryz.underlying140 Tryz.underlying140 Tryz.typeInfo62 rfl (by decide) h1 h2 h3 h4 h5 h6 h7 ?_)
   intro A5 c5 w5 e1; replace h := h A5 c5 w5 e1
   refine ⟨fun hh => absurd hh (by decide), ?_⟩
   refine qbo 9 rfl (qbz (v := .pointer (some ⟨b2, o1, none⟩))) (qbo 10 rfl (qbz (v := .pointer (some ⟨b2, o1, none⟩))) ?_)
   obtain ⟨hc, hf, h⟩ := h
   refine qbm 11 rfl (qbc (v := .slice A5 (n3 + 1) c5) rfl Tryz.sizeOf140 rfl hc hf ?_)
   intro w6 e1; replace h := h w6 e1
   refine ⟨fun hh => absurd hh (by decide), ?_⟩
   refine qbk (qz (wp_seq (qx (qbt 1 (qq (qag (cs := ([.slice A1 n1 c1] : List Value)) rfl Tryz.underlying140 Tryz.sizeOf62 Tryz.zeroValue62 (by kernel_rfl) (by decide) (by decide) ?_))))))
   intro b4 w7 e1 e2; replace h := h b4 w7 e1 e2
   refine qq (qai (args := #[.slice (some ⟨b4, 0, none⟩) 1 1]) rfl Tryz.call77 (Ret.mono h ?_))
   clear h; rintro r2 w8 ⟨d1, rfl, hl0, h⟩
   obtain ⟨hl, h1, hw, h⟩ := h
   refine qq (qbd (cs := d1) rfl Tryz.sizeOf22 hl h1 hw ?_)
   intro w9 e1; replace h := h w9 e1
   refine qo (qz (wp_ret ?_))
   obtain ⟨d2, hl0_0, hx0, h⟩ := h
   exact qbi (vs := [.agg d2.toArray]) (v := .agg d2.toArray) Tryz.results62 ⟨⟨b1, 0, by kernel_rfl, run_loadN Tryz.isAgg22 Tryz.sizeOf22 (by simp [hl0_0]) hx0⟩, trivial⟩ h
  ·replace h := h.2 (of_decide_eq_false hb)
   refine wp_skip (qz (wp_seq (qx (qbt 1 (qq (qag (cs := ([.slice A1 n1 c1] : List Value)) rfl Tryz.underlying140 Tryz.sizeOf62 Tryz.zeroValue62 (by kernel_rfl) (by decide) (by decide) ?_))))))
   intro b5 w10 e1 e2; replace h := h b5 w10 e1 e2
   refine qq (qai (args := #[.slice (some ⟨b5, 0, none⟩) 1 1]) rfl Tryz.call77 (Ret.mono h ?_))
   clear h; rintro r3 w11 ⟨d3, rfl, hl0, h⟩
   obtain ⟨hl, h1, hw, h⟩ := h
   refine qq (qbd (cs := d3) rfl Tryz.sizeOf22 hl h1 hw ?_)
   intro w12 e1; replace h := h w12 e1
   refine qo (qz (wp_ret ?_))
   obtain ⟨d4, hl0_0, hx0, h⟩ := h
   exact qbi (vs := [.agg d4.toArray]) (v := .agg d4.toArray) Tryz.results62 ⟨⟨b1, 0, by kernel_rfl, run_loadN Tryz.isAgg22 Tryz.sizeOf22 (by simp [hl0_0]) hx0⟩, trivial⟩ h
 ·intro hb; refine qbs 7 (e := (!p1.isNone)) (b := false) hb ?_
  replace h := h.2 (Option.isNone_iff_eq_none.1 (not_flip hb))
  refine qbr (qz (wp_cond_false (by kernel_rfl) (wp_skip (qz (wp_seq (qx (qbt 1 (qq (qag (cs := ([.slice A1 n1 c1] : List Value)) rfl Tryz.underlying140 Tryz.sizeOf62 Tryz.zeroValue62 (by kernel_rfl) (by decide) (by decide) ?_)))))))))
  intro b6 w13 e1 e2; replace h := h b6 w13 e1 e2
  refine qq (qai (args := #[.slice (some ⟨b6, 0, none⟩) 1 1]) rfl Tryz.call77 (Ret.mono h ?_))
  clear h; rintro r4 w14 ⟨d5, rfl, hl0, h⟩
  obtain ⟨hl, h1, hw, h⟩ := h
  refine qq (qbd (cs := d5) rfl Tryz.sizeOf22 hl h1 hw ?_)
  intro w15 e1; replace h := h w15 e1
  refine qo (qz (wp_ret ?_))
  obtain ⟨d6, hl0_0, hx0, h⟩ := h
  exact qbi (vs := [.agg d6.toArray]) (v := .agg d6.toArray) Tryz.results62 ⟨⟨b1, 0, by kernel_rfl, run_loadN Tryz.isAgg22 Tryz.sizeOf22 (by simp [hl0_0]) hx0⟩, trivial⟩ h
def S_15 (A1 : Option Addr) (n1 c1 : Nat) (A2 : Option Addr) (n2 c2 : Nat) (w : World) (Q : Value → World → Prop) : Prop :=
 ∀ b1 w1, b1 = w.heap.size → w1 = w.alloc (.cells #[.slice A1 n1 c1] 32) →
 ∀ b2 w2, b2 = w1.heap.size → w2 = w1.alloc (.map #[] 0) →
 ∃ (I1 : Int → World → Prop) (μ1 : Int → World → Nat), I1 0 w2 ∧
 ∀ x1 w3, I1 x1 w3 →
 (x1 < (n2 : Int) →
 ∃ b3 o1, A2 = some ⟨b3, o1, none⟩ ∧ (0 : Int) ≤ x1 ∧ x1 < (n2 : Int) ∧
 ∃ x2, w3.cell? ⟨b3, (o1 + (x1).toNat * 1), none⟩ = some (.int .i64 x2) ∧
 ∃ A3 n3 c3, w3.rangeAt b1 0 ([.slice A3 n3 c3] : List Value) ∧
 Ret Tryz.prog 35 #[.agg #[.slice A3 n3 c3], .int .i64 x2] w3 fun r1 w4 => ∃ A4 n4 c4, r1 = .slice A4 n4 c4 ∧
 ∃ (I2 : Int → World → Prop) (μ2 : Int → World → Nat), I2 0 w4 ∧
 ∀ x3 w5, I2 x3 w5 →
 (x3 < (n4 : Int) →
 ∃ b4 o2, A4 = some ⟨b4, o2, none⟩ ∧ (0 : Int) ≤ x3 ∧ x3 < (n4 : Int) ∧
 ∃ x4, w5.cell? ⟨b4, (o2 + (x3).toNat * 1), none⟩ = some (.int .i64 x4) ∧
 (x3 > 0 →
 ∃ n5 f1, Mi Tryz.prog 3 w5 b2 n5 f1 ∧ InI x4 ∧ n5 < maxLen ∧
 ∀ w6, Mi Tryz.prog 3 w6 b2 (n5 + 1) (fSet f1 x4 (.bool true)) → Mod (fun i => i = b2) w5 w6 →
 I2 (IntKind.i64.wrap (x3 + 1)) w6 ∧ μ2 (IntKind.i64.wrap (x3 + 1)) w6 < μ2 x3 w5) ∧
 (¬ x3 > 0 →
 I2 (IntKind.i64.wrap (x3 + 1)) w5 ∧ μ2 (IntKind.i64.wrap (x3 + 1)) w5 < μ2 x3 w5)) ∧
 (¬ x3 < (n4 : Int) →
 I1 (IntKind.i64.wrap (x1 + 1)) w5 ∧ μ1 (IntKind.i64.wrap (x1 + 1)) w5 < μ1 x1 w3)) ∧
 (¬ x1 < (n2 : Int) →
 Ret Tryz.prog 37 #[.map (some b2)] w3 fun rv1 w7 => ∃ v1, rv1 = v1 ∧
 Ret Tryz.prog 36 #[v1] w7 fun r3 w8 => ∃ A5 n6 c5, r3 = .slice A5 n6 c5 ∧
 Q (.slice A5 n6 c5) w8)
theorem L_15 (A1 : Option Addr) (n1 c1 : Nat) (A2 : Option Addr) (n2 c2 : Nat) (w : World) (Q : Value → World → Prop) (h : S_15 A1 n1 c1 A2 n2 c2 w Q) : Ret Tryz.prog 15 #[.agg #[.slice A1 n1 c1], .slice A2 n2 c2] w Q := by
 unfold S_15 at h
 refine ret_of_wp Tryz.func15 rfl (wp_seq (qx (qq (qaf (v := .agg #[.slice A1 n1 c1]) rfl ?_))))
 intro b1 w1 e1 e2; replace h := h b1 w1 e1 e2
 refine qbr (qz (wp_seq (qx (qq (qat rfl ?_)))))
 intro b2 w2 e1 e2; replace h := h b2 w2 e1 e2
 refine qbr (qz (wp_seq (wp_seq (qx (qbr (qz (wp_block ?_)))))))
 obtain ⟨I1, μ1, hI1, hB1⟩ := h
 refine wp_loop_st (σ := Int) (fun s a => ∃ u1 : Nat → Value, a = ⟨#[.agg #[.slice A1 n1 c1], .slice A2 n2 c2, .pointer (some ⟨b1, 0, none⟩), undef, .slice none 0 0, .map (some b2), undef, u1 7, u1 8, u1 9, .map (some b2), .slice A2 n2 c2, .int .i64 (n2 : Int), .int .i64 s, u1 14, u1 15, u1 16, u1 17, u1 18, u1 19, u1 20, u1 21, u1 22, u1 23, u1 24, u1 25, u1 26, u1 27, u1 28, u1 29, u1 30, u1 31, undef, undef, undef], []⟩) (fun s w => I1 s w) (fun s w => μ1 s w) (0) (qaa) hI1 ?_
 rintro x1 a w3 ⟨u1, rfl⟩ hI1
 have h := hB1 x1 w3 hI1
 refine wp_seq (qx (qbr (qz (wp_seq (wp_cond_split (t := (decide (x1 < (n2 : Int)))) (by kernel_rfl) (fun hb => ?_) (fun hb => ?_))))))
 ·replace h := h.1 (of_decide_eq_true hb)
  refine wp_skip (qz (wp_seq (wp_block (wp_seq (qx ?_)))))
  obtain ⟨b3, o1, rfl, h⟩ := h
  obtain ⟨h1, h2, h⟩ := h
  refine qq (qan (k := .i64) (j := x1) (b := b3) (off := o1) (n := n2) (c := c2) rfl Tryz.underlying30 Tryz.sizeOf3 h1 h2 ?_)
  obtain ⟨x2, hx, h⟩ := h
  refine qq (qap (v := .int .i64 x2) rfl Tryz.isAgg3 hx ?_)
  refine qbr (qz (wp_seq (qx ?_)))
  obtain ⟨A3, n3, c3, hx, h⟩ := h
  refine qq (qaq (cs := ([.slice A3 n3 c3] : List Value)) rfl Tryz.isAgg32 Tryz.sizeOf32 (by simp []) hx ?_)
  refine qbt 1 (qq (qai (args := #[.agg #[.slice A3 n3 c3], .int .i64 x2]) rfl Tryz.call35 (Ret.mono h ?_)))
  clear h; rintro r1 w4 ⟨A4, n4, c4, rfl, h⟩
  refine qbr (qz (wp_block ?_))
  obtain ⟨I2, μ2, hI2, hB2⟩ := h
  refine wp_loop_st (σ := Int) (fun s a => ∃ u2 : Nat → Value, a = ⟨#[.agg #[.slice A1 n1 c1], .slice (some ⟨b3, o1, none⟩) n2 c2, .pointer (some ⟨b1, 0, none⟩), undef, .slice none 0 0, .map (some b2), undef, .int .i64 x2, u2 8, u2 9, .map (some b2), .slice (some ⟨b3, o1, none⟩) n2 c2, .int .i64 (n2 : Int), .int .i64 x1, .bool (decide (x1 < (n2 : Int))), .pointer (some ⟨b3, (o1 + (x1).toNat * 1), none⟩), .int .i64 x2, .agg #[.slice A3 n3 c3], .int .i64 x2, .slice A4 n4 c4, .int .i64 (n4 : Int), .int .i64 s, u2 22, u2 23, u2 24, u2 25, u2 26, u2 27, u2 28, u2 29, u2 30, u1 31, undef, undef, undef], []⟩) (fun s w => I2 s w) (fun s w => μ2 s w) (0) (qaa) hI2 ?_
  rintro x3 a w5 ⟨u2, rfl⟩ hI2
  have h := hB2 x3 w5 hI2
  refine wp_seq (qx (qbr (qz (wp_seq (wp_cond_split (t := (decide (x3 < (n4 : Int)))) (by kernel_rfl) (fun hb => ?_) (fun hb => ?_))))))
  ·replace h := h.1 (of_decide_eq_true hb)
   refine wp_skip (qz (wp_seq (wp_block (wp_seq (qx (qbt 1 ?_))))))
   obtain ⟨b4, o2, rfl, h⟩ := h
   obtain ⟨h1, h2, h⟩ := h
   refine qq (qan (k := .i64) (j := x3) (b := b4) (off := o2) (n := n4) (c := c4) rfl Tryz.underlying30 Tryz.sizeOf3 h1 h2 ?_)
   obtain ⟨x4, hx, h⟩ := h
   refine qq (qap (v := .int .i64 x4) rfl Tryz.isAgg3 hx ?_)
   refine qbr (qz (wp_seq (qx (qbr (qz (wp_cond_split (t := (decide (x3 > 0))) (by kernel_rfl) (fun hb => ?_) (fun hb => ?_)))))))
   ·replace h := h.1 (of_decide_eq_true hb)
    refine qx (qbt 2 ?_)
    obtain ⟨n5, f1, h1, h2, h3, h⟩ := h
    refine qq (qbe (b := b2) (n := n5) (j := x4) (v := .bool true) (f := f1) rfl Tryz.underlying104 Tryz.underlying3 h1 h2 h3 ?_)
    intro w6 e1 e2; replace h := h w6 e1 e2
    refine qo (qu (qz (qx (qbr (qz ?_)))))
    exact ⟨((IntKind.i64.wrap (x3 + 1))), qaa, h.1, h.2⟩
   ·replace h := h.2 (of_decide_eq_false hb)
    refine wp_skip (qu (qz (qx (qbr (qz ?_)))))
    exact ⟨((IntKind.i64.wrap (x3 + 1))), qaa, h.1, h.2⟩
  ·replace h := h.2 (of_decide_eq_false hb)
   refine wp_exit (qr (qr (block_exit_eq (qu (qz (qx (qbr (qz ?_))))))))
   exact ⟨((IntKind.i64.wrap (x1 + 1))), qaa, h.1, h.2⟩
 ·replace h := h.2 (of_decide_eq_false hb)
  refine wp_exit (qr (qr (block_exit_eq (qz (wp_seq (qx (qbt 1 (qq (qai (args := #[.map (some b2)]) rfl Tryz.call37 (Ret.mono h ?_))))))))))
  clear h; rintro v1 w7 ⟨_, rfl, h⟩
  refine qq (qai (args := #[v1]) rfl Tryz.call36 (Ret.mono h ?_))
  clear h; rintro r3 w8 ⟨A5, n6, c5, rfl, h⟩
  refine qbr (qz (wp_ret ?_))
  exact qbh (v := .slice A5 n6 c5) h
def S_16 (A1 : Option Addr) (n1 c1 : Nat) (A2 : Option Addr) (n2 c2 : Nat) (A3 : Option Addr) (n3 c3 : Nat) (w : World) (Q : Value → World → Prop) : Prop :=
 ∀ b1 w1, b1 = w.heap.size → w1 = w.alloc (.cells #[.slice A1 n1 c1] 32) →
 ∃ (I1 : Int → Int → World → Prop) (μ1 : Int → Int → World → Nat), I1 (-1) 0 w1 ∧
 ∀ x1 x2 w2, I1 x1 x2 w2 →
 (x2 < (n3 : Int) →
 ∃ b2 o1, A3 = some ⟨b2, o1, none⟩ ∧ (0 : Int) ≤ x2 ∧ x2 < (n3 : Int) ∧
 ∃ x3 A4 n4 c4, w2.rangeAt b2 (o1 + (x2).toNat * 2) ([.int .i64 x3, .slice A4 n4 c4] : List Value) ∧
 ∀ b3 w3, b3 = w2.heap.size → w3 = w2.alloc (.cells #[.int .i64 0, .slice none 0 0] 68) →
 w3.there b3 0 2 ∧
 ∀ w4, w4 = w3.setCells b3 0 ([.int .i64 x3, .slice A4 n4 c4] : List Value) →
 ∀ w5, w5 = w4.drew →
 ∃ x4, w4.cell? ⟨b3, 0, none⟩ = some (.int .i64 x4) ∧
 (x4 ≤ x1 →
 Q (.bool false) w5) ∧
 (¬ x4 ≤ x1 →
 ∃ x5, w4.cell? ⟨b3, 0, none⟩ = some (.int .i64 x5) ∧
 ∃ A5 n5 c5, w4.rangeAt b1 0 ([.slice A5 n5 c5] : List Value) ∧
 Ret Tryz.prog 38 #[.agg #[.slice A5 n5 c5]] w5 fun r1 w6 => ∃ x6, r1 = .int .i64 x6 ∧
 Keep w4 w6 ∧
 (x5 ≥ x6 →
 Q (.bool false) w6) ∧
 (¬ x5 ≥ x6 →
 ∃ A6 n6 c6, w4.cell? ⟨b3, 1, none⟩ = some (.slice A6 n6 c6) ∧
 ((n6 : Int) ≠ 256 →
 Q (.bool false) w6) ∧
 ((n6 : Int) = 256 →
 ∃ x7, w6.cell? ⟨b3, 0, none⟩ = some (.int .i64 x7) ∧
 I1 x7 (IntKind.i64.wrap (x2 + 1)) w6 ∧ μ1 x7 (IntKind.i64.wrap (x2 + 1)) w6 < μ1 x1 x2 w2)))) ∧
 (¬ x2 < (n3 : Int) →
 ∀ w7, w7 = w2.drew →
 ∃ A7 n7 c7, w2.rangeAt b1 0 ([.slice A7 n7 c7] : List Value) ∧
 Ret Tryz.prog 18 #[.slice A3 n3 c3] w7 fun r2 w8 => ∃ A8 n8 c8, r2 = .slice A8 n8 c8 ∧
 Keep w2 w8 ∧
 Ret Tryz.prog 15 #[.agg #[.slice A7 n7 c7], .slice A8 n8 c8] w8 fun r3 w9 => ∃ A9 n9 c9, r3 = .slice A9 n9 c9 ∧
 ∃ (I2 : Int → World → Prop) (μ2 : Int → World → Nat), I2 0 w9 ∧
 ∀ x8 w10, I2 x8 w10 →
 (x8 < (n9 : Int) →
 ∃ b4 o2, A9 = some ⟨b4, o2, none⟩ ∧ (0 : Int) ≤ x8 ∧ x8 < (n9 : Int) ∧
 ∃ x9, w10.cell? ⟨b4, (o2 + (x8).toNat * 1), none⟩ = some (.int .i64 x9) ∧
 Ret Tryz.prog 19 #[.slice A2 n2 c2, .int .i64 x9] w10 fun r4 w11 => ∃ A10 n10 c10 q1, r4 = .tuple #[.slice A10 n10 c10, .bool q1] ∧
 (q1 = false →
 Q (.bool false) w11) ∧
 (q1 = true →
 ∃ A11 n11 c11, w11.rangeAt b1 0 ([.slice A11 n11 c11] : List Value) ∧
 Ret Tryz.prog 40 #[.agg #[.slice A11 n11 c11], .int .i64 x9] w11 fun r5 w12 => ∃ A12 n12 c12, r5 = .slice A12 n12 c12 ∧
 ((n10 : Int) ≠ (n12 : Int) →
 Q (.bool false) w12) ∧
 ((n10 : Int) = (n12 : Int) →
 Ret Tryz.prog 41 #[.slice A10 n10 c10, .func (.func 39) #[] #[]] w12 fun r6 w13 => ∃ q2, r6 = .bool q2 ∧
 (q2 = true →
 Q (.bool false) w13) ∧
 (q2 = false →
 I2 (IntKind.i64.wrap (x8 + 1)) w13 ∧ μ2 (IntKind.i64.wrap (x8 + 1)) w13 < μ2 x8 w10)))) ∧
 (¬ x8 < (n9 : Int) →
 Q (.bool true) w10))
theorem L_16 (A1 : Option Addr) (n1 c1 : Nat) (A2 : Option Addr) (n2 c2 : Nat) (A3 : Option Addr) (n3 c3 : Nat) (w : World) (Q : Value → World → Prop) (h : S_16 A1 n1 c1 A2 n2 c2 A3 n3 c3 w Q) : Ret Tryz.prog 16 #[.agg #[.slice A1 n1 c1], .slice A2 n2 c2, .slice A3 n3 c3] w Q := by
 unfold S_16 at h
 refine ret_of_wp Tryz.func16 rfl (wp_seq (qx (qq (qaf (v := .agg #[.slice A1 n1 c1]) rfl ?_))))
 intro b1 w1 e1 e2; replace h := h b1 w1 e1 e2
 refine qbr (qz (wp_seq (qx (qbr (qz (wp_seq (wp_seq (qx (qbr (qz (wp_block ?_)))))))))))
 obtain ⟨I1, μ1, hI1, hB1⟩ := h
 refine wp_loop_st (σ := Int × Int) (fun s a => ∃ u1 : Nat → Value, a = ⟨#[.agg #[.slice A1 n1 c1], .slice A2 n2 c2, .slice A3 n3 c3, .pointer (some ⟨b1, 0, none⟩), undef, undef, u1 6, .int .i64 s.1, undef, u1 9, undef, undef, undef, undef, undef, .slice A3 n3 c3, .int .i64 (n3 : Int), .int .i64 s.2, u1 18, u1 19, u1 20, u1 21, u1 22, u1 23, u1 24, u1 25, u1 26, u1 27, u1 28, u1 29, u1 30, u1 31, u1 32, u1 33, u1 34, u1 35, u1 36, u1 37, u1 38, u1 39, u1 40, undef, undef, undef, undef, undef, undef, undef, undef, undef, undef, undef, undef, undef, undef, undef, undef, undef, undef, undef, undef, undef, undef, undef, undef, undef, undef, undef, undef, undef, undef, undef, undef], []⟩) (fun s w => I1 s.1 s.2 w) (fun s w => μ1 s.1 s.2 w) ((-1), 0) (qaa) hI1 ?_
 rintro ⟨x1, x2⟩ a w2 ⟨u1, rfl⟩ hI1
 have h := hB1 x1 x2 w2 hI1
 refine wp_seq (qx (qbr (qz (wp_seq (wp_cond_split (t := (decide (x2 < (n3 : Int)))) (by kernel_rfl) (fun hb => ?_) (fun hb => ?_))))))
 ·replace h := h.1 (of_decide_eq_true hb)
  refine wp_skip (qz (wp_seq (wp_block (wp_seq (qx ?_)))))
  obtain ⟨b2, o1, rfl, h⟩ := h
  obtain ⟨h1, h2, h⟩ := h
  refine qq (qan (k := .i64) (j := x2) (b := b2) (off := o1) (n := n3) (c := c3) rfl Tryz.underlying50 Tryz.sizeOf68 h1 h2 ?_)
  obtain ⟨x3, A4, n4, c4, hx, h⟩ := h
  refine qq (qaq (cs := ([.int .i64 x3, .slice A4 n4 c4] : List Value)) rfl Tryz.isAgg68 Tryz.sizeOf68 (by simp []) hx ?_)
  refine qq (qac rfl Tryz.zeroValue68 ?_)
  intro b3 w3 e1 e2; replace h := h b3 w3 e1 e2
  obtain ⟨hw, h⟩ := h
  refine qq (qbd (cs := ([.int .i64 x3, .slice A4 n4 c4] : List Value)) rfl Tryz.sizeOf68 rfl (qab) hw ?_)
  intro w4 e1; replace h := h w4 e1
  refine qo (qz (wp_seq (wp_seq (qbj (Keep w4) [] ?_))))
  intro w5 e1; have hK1 := keep_drew e1; replace h := h w5 e1
  refine qbo 0 rfl (qbz (v := .pointer (some ⟨b3, 0, none⟩))) ?_
  obtain ⟨x4, hx, h⟩ := h
  refine qbn 1 rfl (qbw (v := .int .i64 x4) rfl Tryz.isAgg3 (fun _ hk => keep_cell hk hx)) hK1 ?_
  refine qbo 2 rfl (qbz (v := .int .i64 x1)) (qbo 3 rfl (qbz (v := .bool (decide (x4 ≤ x1)))) (qbo 4 rfl (qbz (v := .bool (decide (x4 ≤ x1)))) (wd_split (e := (decide (x4 ≤ x1))) ?_ ?_)))
  ·intro hb; refine qbl 25 (e := (decide (x4 ≤ x1))) (b := true) hb ?_
   replace h := h.1 (of_decide_eq_true hb)
   refine qbo 5 rfl (qcb) (qbn 6 rfl (qcb) hK1 (qbn 7 rfl (qcb) hK1 (qbo 8 rfl (qcb) (qbo 9 rfl (qcb) (qbo 10 rfl (qbz (v := .bool true)) (qbo 11 rfl (qbz (v := .bool true)) (qbo 12 rfl (qcb) (qbn 13 rfl (qcb) hK1 (qbo 14 rfl (qcb) (qbo 15 rfl (qcb) (qbo 16 rfl (qbz (v := .bool true)) (qbk (qz (wp_cond_true (by kernel_rfl) (wp_seq (qx (qbr (qz (wp_ret (qs (block_ret (qs (qs (block_ret (qs ?_)))))))))))))))))))))))))
   exact qbh (v := .bool false) h
  ·intro hb; refine qbl 25 (e := (decide (x4 ≤ x1))) (b := false) hb ?_
   replace h := h.2 (of_decide_eq_false hb)
   refine qbo 5 rfl (qbz (v := .pointer (some ⟨b3, 0, none⟩))) ?_
   obtain ⟨x5, hx, h⟩ := h
   refine qbn 6 rfl (qbw (v := .int .i64 x5) rfl Tryz.isAgg3 (fun _ hk => keep_cell hk hx)) hK1 ?_
   obtain ⟨A5, n5, c5, hx, h⟩ := h
   refine qbn 7 rfl (qbx (cs := ([.slice A5 n5 c5] : List Value)) rfl Tryz.isAgg32 Tryz.sizeOf32 (by simp []) (fun _ hk => keep_range hk hx)) hK1 ?_
   refine qbm 8 rfl (qai (args := #[.agg #[.slice A5 n5 c5]]) rfl Tryz.call38 (Ret.mono h ?_))
   clear h; rintro r1 w6 ⟨x6, rfl, h⟩
   obtain ⟨hK2, h⟩ := h
   refine ⟨fun _ _ => hK2, ?_⟩
   refine qbo 9 rfl (qbz (v := .bool (decide (x5 ≥ x6)))) (qbo 10 rfl (qbz (v := .bool (decide (x5 ≥ x6)))) (qbo 11 rfl (qbz (v := .bool (decide (x5 ≥ x6)))) (wd_split (e := (decide (x5 ≥ x6))) ?_ ?_)))
   ·intro hb; refine qbl 32 (e := (decide (x5 ≥ x6))) (b := true) hb ?_
    replace h := h.1 (of_decide_eq_true hb)
    refine qbo 12 rfl (qcb) (qbn 13 rfl (qcb) hK2 (qbo 14 rfl (qcb) (qbo 15 rfl (qcb) (qbo 16 rfl (qbz (v := .bool true)) (qbk (qz (wp_cond_true (by kernel_rfl) (wp_seq (qx (qbr (qz (wp_ret (qs (block_ret (qs (qs (block_ret (qs ?_))))))))))))))))))
    exact qbh (v := .bool false) h
   ·intro hb; refine qbl 32 (e := (decide (x5 ≥ x6))) (b := false) hb ?_
    replace h := h.2 (of_decide_eq_false hb)
    refine qbo 12 rfl (qbz (v := .pointer (some ⟨b3, 1, none⟩))) ?_
    obtain ⟨A6, n6, c6, hx, h⟩ := h
    refine qbn 13 rfl (qbw (v := .slice A6 n6 c6) rfl Tryz.isAgg62 (fun _ hk => keep_cell hk hx)) hK2 ?_
    refine qbo 14 rfl (qbz (v := .int .i64 (n6 : Int))) (qbo 15 rfl (qbz (v := .bool ((n6 : Int) != 256))) (qbo 16 rfl (qbz (v := .bool ((n6 : Int) != 256))) (qbk (qz (wp_cond_split (t := ((n6 : Int) != 256)) (by kernel_rfl) (fun hb => ?_) (fun hb => ?_))))))
    ·replace h := h.1 (bne_iff_ne.1 hb)
     refine wp_seq (qx (qbr (qz (wp_ret (qs (block_ret (qs (qs (block_ret (qs ?_))))))))))
     exact qbh (v := .bool false) h
    ·replace h := h.2 (bne_false hb)
     refine wp_skip (qz (qx (qbt 1 ?_)))
     obtain ⟨x7, hx, h⟩ := h
     refine qq (qap (v := .int .i64 x7) rfl Tryz.isAgg3 hx ?_)
     refine qbr (qu (qz (qx (qbr (qz ?_)))))
     exact ⟨(x7, (IntKind.i64.wrap (x2 + 1))), qaa, h.1, h.2⟩
 ·replace h := h.2 (of_decide_eq_false hb)
  refine wp_exit (qr (qr (block_exit_eq (qz (wp_seq (wp_seq (qbj (Keep w2) [3] ?_)))))))
  intro w7 e1; have hK3 := keep_drew e1; replace h := h w7 e1
  obtain ⟨A7, n7, c7, hx, h⟩ := h
  refine qbn 0 rfl (qbx (cs := ([.slice A7 n7 c7] : List Value)) rfl Tryz.isAgg32 Tryz.sizeOf32 (by simp []) (fun _ hk => keep_range hk hx)) hK3 ?_
  refine qbo 1 rfl (qbz (v := .slice A3 n3 c3)) (qbo 5 rfl (qbz (v := .int .i64 0)) (qbm 2 rfl (qai (args := #[.slice A3 n3 c3]) rfl Tryz.call18 (Ret.mono h ?_))))
  clear h; rintro r2 w8 ⟨A8, n8, c8, rfl, h⟩
  obtain ⟨hK4, h⟩ := h
  refine ⟨fun _ _ => hK4, ?_⟩
  refine qbm 3 rfl (qai (args := #[.agg #[.slice A7 n7 c7], .slice A8 n8 c8]) rfl Tryz.call15 (Ret.mono h ?_))
  clear h; rintro r3 w9 ⟨A9, n9, c9, rfl, h⟩
  refine ⟨fun hh => absurd hh (by decide), ?_⟩
  refine qbo 4 rfl (qbz (v := .int .i64 (n9 : Int))) (qbk (qz (wp_block ?_)))
  obtain ⟨I2, μ2, hI2, hB2⟩ := h
  refine wp_loop_st (σ := Int) (fun s a => ∃ u2 : Nat → Value, a = ⟨#[.agg #[.slice A1 n1 c1], .slice A2 n2 c2, .slice A3 n3 c3, .pointer (some ⟨b1, 0, none⟩), undef, undef, u2 6, .int .i64 x1, undef, u1 9, undef, u2 11, u2 12, u2 13, u2 14, .slice A3 n3 c3, .int .i64 (n3 : Int), .int .i64 x2, .bool (decide (x2 < (n3 : Int))), u1 19, u1 20, u1 21, u1 22, u1 23, u1 24, u1 25, u1 26, u1 27, u1 28, u1 29, u1 30, u1 31, u1 32, u1 33, u1 34, u1 35, u1 36, u1 37, u1 38, u1 39, u1 40, .agg #[.slice A7 n7 c7], .slice A3 n3 c3, .slice A8 n8 c8, .slice A9 n9 c9, .int .i64 (n9 : Int), .int .i64 s, u2 47, u2 48, u2 49, u2 50, u2 51, u2 52, u2 53, u2 54, u2 55, u2 56, u2 57, u2 58, u2 59, u2 60, u2 61, u2 62, u2 63, u2 64, u2 65, u2 66, u2 67, u2 68, u2 69, u2 70, u2 71, u2 72], []⟩) (fun s w => I2 s w) (fun s w => μ2 s w) (0) (qaa) hI2 ?_
  rintro x8 a w10 ⟨u2, rfl⟩ hI2
  have h := hB2 x8 w10 hI2
  refine wp_seq (qx (qbr (qz (wp_seq (wp_cond_split (t := (decide (x8 < (n9 : Int)))) (by kernel_rfl) (fun hb => ?_) (fun hb => ?_))))))
  ·replace h := h.1 (of_decide_eq_true hb)
   refine wp_skip (qz (wp_seq (wp_block (wp_seq (qx ?_)))))
   obtain ⟨b4, o2, rfl, h⟩ := h
   obtain ⟨h1, h2, h⟩ := h
   refine qq (qan (k := .i64) (j := x8) (b := b4) (off := o2) (n := n9) (c := c9) rfl Tryz.underlying30 Tryz.sizeOf3 h1 h2 ?_)
   obtain ⟨x9, hx, h⟩ := h
   refine qq (qap (v := .int .i64 x9) rfl Tryz.isAgg3 hx ?_)
   refine qbr (qz (wp_seq (qx (qbt 2 (qq (qai (args := #[.slice A2 n2 c2, .int .i64 x9]) rfl Tryz.call19 (Ret.mono h ?_)))))))
   clear h; rintro r4 w11 ⟨A10, n10, c10, q1, rfl, h⟩
   refine qbr (qz (wp_seq (qx (qbr (qz (wp_seq (qx (qbt 3 (wl_split (e := (!q1)) ?_ ?_)))))))))
   ·intro hb; refine qbs 58 (e := (!q1)) (b := true) hb ?_
    replace h := h.1 ((not_flip hb))
    refine qbr (qz (wp_cond_true (by kernel_rfl) (wp_seq (qx (qbr (qz (wp_ret (block_ret (qs (qs (block_ret (qs ?_))))))))))))
    exact qbh (v := .bool false) h
   ·intro hb; refine qbs 58 (e := (!q1)) (b := false) hb ?_
    replace h := h.2 ((not_flip hb))
    refine qbt 2 ?_
    obtain ⟨A11, n11, c11, hx, h⟩ := h
    refine qq (qaq (cs := ([.slice A11 n11 c11] : List Value)) rfl Tryz.isAgg32 Tryz.sizeOf32 (by simp []) hx ?_)
    refine qbt 1 (qq (qai (args := #[.agg #[.slice A11 n11 c11], .int .i64 x9]) rfl Tryz.call40 (Ret.mono h ?_)))
    clear h; rintro r5 w12 ⟨A12, n12, c12, rfl, h⟩
    refine qbt 4 (wl_split (e := ((n10 : Int) != (n12 : Int))) ?_ ?_)
    ·intro hb; refine qbs 67 (e := ((n10 : Int) != (n12 : Int))) (b := true) hb ?_
     replace h := h.1 (bne_iff_ne.1 hb)
     refine qbr (qz (wp_cond_true (by kernel_rfl) (wp_seq (qx (qbr (qz (wp_ret (block_ret (qs (qs (block_ret (qs ?_))))))))))))
     exact qbh (v := .bool false) h
    ·intro hb; refine qbs 67 (e := ((n10 : Int) != (n12 : Int))) (b := false) hb ?_
     replace h := h.2 (bne_false hb)
     refine qbt 2 (qq (qai (args := #[.slice A10 n10 c10, .func (.func 39) #[] #[]]) rfl Tryz.call41 (Ret.mono h ?_)))
     clear h; rintro r6 w13 ⟨q2, rfl, h⟩
     refine qbr (qz (wp_cond_split (t := q2) (by kernel_rfl) (fun hb => ?_) (fun hb => ?_)))
     ·replace h := h.1 (hb)
      refine wp_seq (qx (qbr (qz (wp_ret (block_ret (qs (qs (block_ret (qs ?_)))))))))
      exact qbh (v := .bool false) h
     ·replace h := h.2 (hb)
      refine wp_skip (qu (qz (qx (qbr (qz ?_)))))
      exact ⟨((IntKind.i64.wrap (x8 + 1))), qaa, h.1, h.2⟩
  ·replace h := h.2 (of_decide_eq_false hb)
   refine wp_exit (qr (qr (block_exit_eq (qz (wp_seq (qx (qbr (qz (wp_ret ?_)))))))))
   exact qbh (v := .bool true) h
def S_17 (x1 x2 : Int) (d1 : List Value) (w : World) (Q : Value → World → Prop) : Prop :=
 ∀ b1 w1, b1 = w.heap.size → w1 = w.alloc (.cells (([.int .i64 x1, .int .u32 x2] : List Value) ++ d1).toArray 46) →
 ∃ x3, w1.cell? ⟨b1, 0, none⟩ = some (.int .i64 x3) ∧
 (x3 = 0 →
 Q (.bool true) w1) ∧
 (x3 ≠ 0 →
 ∃ x4, w1.cell? ⟨b1, 0, none⟩ = some (.int .i64 x4) ∧
 Q (.bool (x4 == 1)) w1)
theorem L_17 (x1 x2 : Int) (d1 : List Value) (w : World) (Q : Value → World → Prop) (hp0 : d1.length = 32) (h : S_17 x1 x2 d1 w Q) : Ret Tryz.prog 17 #[.agg (([.int .i64 x1, .int .u32 x2] : List Value) ++ d1).toArray] w Q := by
 unfold S_17 at h
 refine ret_of_wp Tryz.func17 rfl (wp_seq (qx (qq (qaf (v := .agg (([.int .i64 x1, .int .u32 x2] : List Value) ++ d1).toArray) rfl ?_))))
 intro b1 w1 e1 e2; replace h := h b1 w1 e1 e2
 refine qbr (qz (wp_seq (qx (qbt 1 ?_))))
 obtain ⟨x3, hx, h⟩ := h
 refine qq (qap (v := .int .i64 x3) rfl Tryz.isAgg3 hx ?_)
 refine qbt 2 (wl_split (e := (x3 == 0)) ?_ ?_)
 ·intro hb; refine qbs 6 (e := (x3 == 0)) (b := true) hb ?_
  replace h := h.1 (eq_of_beq hb)
  refine qbr (qz (wp_ret ?_))
  exact qbh (v := .bool true) h
 ·intro hb; refine qbs 6 (e := (x3 == 0)) (b := false) hb ?_
  replace h := h.2 (ne_of_beq_false hb)
  refine qbt 1 ?_
  obtain ⟨x4, hx, h⟩ := h
  refine qq (qap (v := .int .i64 x4) rfl Tryz.isAgg3 hx ?_)
  refine qbr (qz (wp_ret ?_))
  exact qbh (v := .bool (x4 == 1)) h
def S_18 (A1 : Option Addr) (n1 c1 : Nat) (w : World) (Q : Value → World → Prop) : Prop :=
 ∃ (I1 : (Option Addr) → Nat → Nat → Int → World → Prop) (μ1 : (Option Addr) → Nat → Nat → Int → World → Nat), I1 none 0 0 0 w ∧
 ∀ A2 n2 c2 x1 w1, I1 A2 n2 c2 x1 w1 →
 (x1 < (n1 : Int) →
 ∃ b1 o1, A1 = some ⟨b1, o1, none⟩ ∧ (0 : Int) ≤ x1 ∧ x1 < (n1 : Int) ∧
 ∃ x2 A3 n3 c3, w1.rangeAt b1 (o1 + (x1).toNat * 2) ([.int .i64 x2, .slice A3 n3 c3] : List Value) ∧
 ∀ b2 w2, b2 = w1.heap.size → w2 = w1.alloc (.cells #[.int .i64 0, .slice none 0 0] 68) →
 w2.there b2 0 2 ∧
 ∀ w3, w3 = w2.setCells b2 0 ([.int .i64 x2, .slice A3 n3 c3] : List Value) →
 ∃ x3, w3.cell? ⟨b2, 0, none⟩ = some (.int .i64 x3) ∧
 ∀ b3 w4, b3 = w3.heap.size → w4 = w3.alloc (.cells #[.int .i64 x3] 3) →
 ∃ l1 l2 : List Value, (n2 + 1) * 8 ≤ 140737488355328 ∧ l1.length = n2 * 1 ∧ RdS w4 A2 l1 ∧ l2.length = 1 * 1 ∧ RdS w4 (some ⟨b3, 0, none⟩) l2 ∧ One l2 ∧ (n2 + 1 ≤ c2 → Room w4 A2 (n2 * 1) (1 * 1)) ∧
 ∀ A4 c4 w5, Appended w4 3 1 #[.int .i64 0] A2 n2 c2 1 l1 l2 A4 c4 w5 →
 I1 A4 (n2 + 1) c4 (IntKind.i64.wrap (x1 + 1)) w5 ∧ μ1 A4 (n2 + 1) c4 (IntKind.i64.wrap (x1 + 1)) w5 < μ1 A2 n2 c2 x1 w1) ∧
 (¬ x1 < (n1 : Int) →
 Q (.slice A2 n2 c2) w1)
theorem L_18 (A1 : Option Addr) (n1 c1 : Nat) (w : World) (Q : Value → World → Prop) (h : S_18 A1 n1 c1 w Q) : Ret Tryz.prog 18 #[.slice A1 n1 c1] w Q := by
 unfold S_18 at h
 refine ret_of_wp Tryz.func18 rfl (wp_seq (qx (qbr (qz (wp_seq (qx (qbr (qz (wp_seq (wp_seq (qx (qbr (qz (wp_block ?_))))))))))))))
 obtain ⟨I1, μ1, hI1, hB1⟩ := h
 refine wp_loop_st (σ := (Option Addr) × Nat × Nat × Int) (fun s a => ∃ u1 : Nat → Value, a = ⟨#[.slice A1 n1 c1, undef, .slice none 0 0, .slice s.1 s.2.1 s.2.2.1, undef, u1 5, .slice A1 n1 c1, .int .i64 (n1 : Int), .int .i64 s.2.2.2, u1 9, u1 10, u1 11, u1 12, u1 13, u1 14, u1 15, u1 16, u1 17, undef], []⟩) (fun s w => I1 s.1 s.2.1 s.2.2.1 s.2.2.2 w) (fun s w => μ1 s.1 s.2.1 s.2.2.1 s.2.2.2 w) (none, 0, 0, 0) (qaa) hI1 ?_
 rintro ⟨A2, n2, c2, x1⟩ a w1 ⟨u1, rfl⟩ hI1
 have h := hB1 A2 n2 c2 x1 w1 hI1
 refine wp_seq (qx (qbr (qz (wp_seq (wp_cond_split (t := (decide (x1 < (n1 : Int)))) (by kernel_rfl) (fun hb => ?_) (fun hb => ?_))))))
 ·replace h := h.1 (of_decide_eq_true hb)
  refine wp_skip (qz (wp_seq (wp_block (wp_seq (qx ?_)))))
  obtain ⟨b1, o1, rfl, h⟩ := h
  obtain ⟨h1, h2, h⟩ := h
  refine qq (qan (k := .i64) (j := x1) (b := b1) (off := o1) (n := n1) (c := c1) rfl Tryz.underlying50 Tryz.sizeOf68 h1 h2 ?_)
  obtain ⟨x2, A3, n3, c3, hx, h⟩ := h
  refine qq (qaq (cs := ([.int .i64 x2, .slice A3 n3 c3] : List Value)) rfl Tryz.isAgg68 Tryz.sizeOf68 (by simp []) hx ?_)
  refine qq (qac rfl Tryz.zeroValue68 ?_)
  intro b2 w2 e1 e2; replace h := h b2 w2 e1 e2
  obtain ⟨hw, h⟩ := h
  refine qq (qbd (cs := ([.int .i64 x2, .slice A3 n3 c3] : List Value)) rfl Tryz.sizeOf68 rfl (qab) hw ?_)
  intro w3 e1; replace h := h w3 e1
  refine qo (qz (qx (qbt 2 ?_)))
  obtain ⟨x3, hx, h⟩ := h
  refine qq (qap (v := .int .i64 x3) rfl Tryz.isAgg3 hx ?_)
  refine qq (qag (cs := ([.int .i64 x3] : List Value)) rfl Tryz.underlying30 Tryz.sizeOf3 Tryz.zeroValue3 (by kernel_rfl) (by decide) (by decide) ?_)
  intro b3 w4 e1 e2; replace h := h b3 w4 e1 e2
  obtain ⟨l1, l2, h1, h2, h3, h4, h5, h6, h7, h⟩ := h
  refine qq (qad (A := A2) (n := n2) (c := c2) (B := (some ⟨b3, 0, none⟩)) (m := 1) (c2 := 1) (olds := l1) (news := l2) rfl Tryz.underlying30 Tryz.underlying30 Tryz.typeInfo3 rfl (by decide) h1 h2 h3 h4 h5 h6 h7 ?_)
  intro A4 c4 w5 e1; replace h := h A4 c4 w5 e1
  refine qbr (qu (qz (qx (qbr (qz ?_)))))
  exact ⟨(A4, (n2 + 1), c4, (IntKind.i64.wrap (x1 + 1))), qaa, h.1, h.2⟩
 ·replace h := h.2 (of_decide_eq_false hb)
  refine wp_exit (qr (qr (block_exit_eq (qz (wp_seq (qx (qbr (qz (wp_ret ?_)))))))))
  exact qbh (v := .slice A2 n2 c2) h
def S_19 (A1 : Option Addr) (n1 c1 : Nat) (x1 : Int) (w : World) (Q : Value → World → Prop) : Prop :=
 ∀ b1 w1, b1 = w.heap.size → w1 = w.alloc (.cells #[.int .i64 x1] 3) →
 Ret Tryz.prog 42 #[.slice A1 n1 c1, .func (.func 43) #[] #[.pointer (some ⟨b1, 0, none⟩)]] w1 fun r1 w2 => ∃ x2, r1 = .int .i64 x2 ∧
 (x2 < 0 →
 Q (.tuple #[.slice none 0 0, .bool false]) w2) ∧
 (¬ x2 < 0 →
 ∃ b2 o1, A1 = some ⟨b2, o1, none⟩ ∧ (0 : Int) ≤ x2 ∧ x2 < (n1 : Int) ∧
 ∃ A2 n2 c2, w2.cell? ⟨b2, ((o1 + (x2).toNat * 2) + 1), none⟩ = some (.slice A2 n2 c2) ∧
 Ret Tryz.prog 21 #[.slice A2 n2 c2] w2 fun r2 w3 => ∃ A3 n3 c3, r2 = .slice A3 n3 c3 ∧
 Q (.tuple #[.slice A3 n3 c3, .bool true]) w3)
theorem L_19 (A1 : Option Addr) (n1 c1 : Nat) (x1 : Int) (w : World) (Q : Value → World → Prop) (h : S_19 A1 n1 c1 x1 w Q) : Ret Tryz.prog 19 #[.slice A1 n1 c1, .int .i64 x1] w Q := by
 unfold S_19 at h
 refine ret_of_wp Tryz.func19 rfl (wp_seq (qx (qq (qaf (v := .int .i64 x1) rfl ?_))))
 intro b1 w1 e1 e2; replace h := h b1 w1 e1 e2
 refine qbr (qz (wp_seq (qx (qbt 2 (qq (qai (args := #[.slice A1 n1 c1, .func (.func 43) #[] #[.pointer (some ⟨b1, 0, none⟩)]]) rfl Tryz.call42 (Ret.mono h ?_)))))))
 clear h; rintro r1 w2 ⟨x2, rfl, h⟩
 refine qbr (qz (wp_seq (wp_seq (qx (qbr (qz (wp_cond_split (t := (decide (x2 < 0))) (by kernel_rfl) (fun hb => ?_) (fun hb => ?_))))))))
 ·replace h := h.1 (of_decide_eq_true hb)
  refine wp_seq (qx (qbr (qz (wp_ret (qs ?_)))))
  exact qbh (v := .tuple #[.slice none 0 0, .bool false]) h
 ·replace h := h.2 (of_decide_eq_false hb)
  refine wp_skip (qz (wp_seq (qx (qbt 2 ?_))))
  obtain ⟨b2, o1, rfl, h⟩ := h
  obtain ⟨h1, h2, h⟩ := h
  refine qq (qan (k := .i64) (j := x2) (b := b2) (off := o1) (n := n1) (c := c1) rfl Tryz.underlying45 Tryz.sizeOf67 h1 h2 ?_)
  refine qbt 1 ?_
  obtain ⟨A2, n2, c2, hx, h⟩ := h
  refine qq (qap (v := .slice A2 n2 c2) rfl Tryz.isAgg65 hx ?_)
  refine qq (qai (args := #[.slice A2 n2 c2]) rfl Tryz.call21 (Ret.mono h ?_))
  clear h; rintro r2 w3 ⟨A3, n3, c3, rfl, h⟩
  refine qbr (qz (wp_ret ?_))
  exact qbh (v := .tuple #[.slice A3 n3 c3, .bool true]) h
def S_20 (p1 : Option Addr) (x1 : Int) (A1 : Option Addr) (n1 c1 : Nat) (w : World) (Q : Value → World → Prop) : Prop :=
 ∃ b1 o1, p1 = some ⟨b1, o1, none⟩ ∧
 ∃ J1 : (Option Addr) → World → Prop, (∀ p3 w1, J1 p3 w1 →
 ∀ w2, w2 = w1.drew →
 ∃ A2 n2 c2, w1.rangeAt b1 (o1 + 34) ([.slice A2 n2 c2] : List Value) ∧
 ∃ b2 o2, p3 = some ⟨b2, o2, none⟩ ∧
 ∃ x2, w1.cell? ⟨b2, o2, none⟩ = some (.int .i64 x2) ∧
 Ret Tryz.prog 45 #[.agg #[.slice A2 n2 c2], .int .i64 x1, .int .i64 (IntKind.i64.wrap (1 - x2))] w2 fun r1 w3 => ∃ x3, r1 = .int .i64 x3 ∧
 ∃ J2 : (Option Addr) → Nat → Nat → (Option Addr) → World → Prop, (∀ A4 n4 c4 p5 w4, J2 A4 n4 c4 p5 w4 →
 ∃ A5 n5 c5, w4.cell? ⟨b1, (o1 + 70), none⟩ = some (.slice A5 n5 c5) ∧
 ∀ b3 w5, b3 = w4.heap.size → w5 = w4.alloc (.cells #[.int .i64 x3, .slice A4 n4 c4] 70) →
 ∃ l1 l2 : List Value, (n5 + 1) * 32 ≤ 140737488355328 ∧ l1.length = n5 * 2 ∧ RdS w5 A5 l1 ∧ l2.length = 1 * 2 ∧ RdS w5 (some ⟨b3, 0, none⟩) l2 ∧ One l2 ∧ (n5 + 1 ≤ c5 → Room w5 A5 (n5 * 2) (1 * 2)) ∧
 ∀ A6 c6 w6, Appended w5 70 2 #[.int .i64 0, .slice none 0 0] A5 n5 c5 1 l1 l2 A6 c6 w6 →
 (w6.cell? ⟨b1, (o1 + 70), none⟩).isSome = true ∧ w6.frozen? ⟨b1, (o1 + 70), none⟩ = false ∧
 ∀ w7, w7 = w6.setCell ⟨b1, (o1 + 70), none⟩ (.slice A6 (n5 + 1) c6) →
 ∃ b4 o3, p5 = some ⟨b4, o3, none⟩ ∧
 ∃ (x4 : Int) (x5 : Int) (d1 : List Value), d1.length = 32 ∧ w7.rangeAt b4 o3 (([.int .i64 x4, .int .u32 x5] : List Value) ++ d1) ∧
 (([.int .i64 x4, .int .u32 x5] : List Value) ++ d1).length = 34 ∧ One (([.int .i64 x4, .int .u32 x5] : List Value) ++ d1) ∧ w7.there b2 o2 34 ∧
 ∀ w8, w8 = w7.setCells b2 o2 (([.int .i64 x4, .int .u32 x5] : List Value) ++ d1) →
 Q (.tuple #[]) w8) ∧
 ∀ w9, w9 = w3.drew →
 ∃ p6, w3.cell? ⟨b1, o1, none⟩ = some (.pointer p6) ∧
 ∃ (d2 : List Value), d2.length = 32 ∧ w3.rangeAt b1 (o1 + 1) d2 ∧
 ∃ x6, w3.cell? ⟨b1, (o1 + 33), none⟩ = some (.int .u32 x6) ∧
 ∃ x7, w3.cell? ⟨b2, o2, none⟩ = some (.int .i64 x7) ∧
 ∀  wp1_0, Ext w9 wp1_0 → Fl w9.heap.size [] wp1_0 [] →
 Ret Tryz.prog 46 #[.pointer p6, .agg d2.toArray, .int .u32 x6, .int .i64 (IntKind.i64.wrap (1 - x7)), .int .i64 x3, .slice A1 n1 c1] wp1_0 fun rr1 wq1_0 => ∃ (A7 : Option Addr) (n6 : Nat) (c7 : Nat) (x8 : Int) (x9 : Int) (d3 : List Value) (x10 : Int), rr1 = .tuple #[.slice A7 n6 c7, .agg (([.int .i64 x8, .int .u32 x9] : List Value) ++ d3).toArray, .int .i64 x10] ∧ d3.length = 32 ∧ KeepFl w9.heap.size wp1_0 wq1_0 ∧
 ∀ bF1_24 wz1, Ext wq1_0 wz1 → Fl w9.heap.size [(wp1_0.heap.size, wq1_0.heap.size)] wz1 [(bF1_24, 46, (([.int .i64 0, .int .u32 0] : List Value) ++ (List.replicate 32 (.int .u8 0 : Value))).toArray)] →
 (([.int .i64 x8, .int .u32 x9] : List Value) ++ d3).length = 34 ∧ One (([.int .i64 x8, .int .u32 x9] : List Value) ++ d3) ∧ wz1.there bF1_24 0 34 ∧
 ∀ w1010, w1010 = wz1.setCells bF1_24 0 (([.int .i64 x8, .int .u32 x9] : List Value) ++ d3) →
 J2 A7 n6 c7 (some ⟨bF1_24, 0, none⟩) w1010) ∧
 ∃ A1008 n1007 c1008, w.rangeAt b1 (o1 + 34) ([.slice A1008 n1007 c1008] : List Value) ∧
 Ret Tryz.prog 44 #[.agg #[.slice A1008 n1007 c1008], .int .i64 x1] w fun r1004 w1012 => ∃ x1011 x1012 q1005, r1004 = .tuple #[.int .i64 x1011, .int .i64 x1012, .bool q1005] ∧
 (q1005 = true →
 ∃ m1, w1012.cell? ⟨b1, (o1 + 69), none⟩ = some (.map m1) ∧
 ∃ b1005 n1008 f1, m1 = some b1005 ∧ Mi Tryz.prog 3 w1012 b1005 n1008 f1 ∧ InI x1011 ∧ ∃ A1009 n1009 c1009, (f1 x1011).getD (.slice none 0 0) = .slice A1009 n1009 c1009 ∧
 ∃ b1006 o1004, A1009 = some ⟨b1006, o1004, none⟩ ∧ (0 : Int) ≤ x1012 ∧ x1012 < (n1009 : Int) ∧
 J1 (some ⟨b1006, (o1004 + (x1012).toNat * 34), none⟩) w1012) ∧
 (q1005 = false →
 J1 (some ⟨b1, (o1 + 35), none⟩) w1012)
theorem L_20 (p1 : Option Addr) (x1 : Int) (A1 : Option Addr) (n1 c1 : Nat) (w : World) (Q : Value → World → Prop) (h : S_20 p1 x1 A1 n1 c1 w Q) : Ret Tryz.prog 20 #[.pointer p1, .int .i64 x1, .slice A1 n1 c1] w Q := by
 unfold S_20 at h
 refine ret_of_wp Tryz.func20 rfl (wp_seq (qx (qbt 1 ?_)))
 obtain ⟨b1, o1, rfl, h⟩ := h
 refine qq (qaw (v := .pointer (some ⟨b1, o1, none⟩)) (by kernel_rfl) ?_)
 refine qbr (qz ?_)
 obtain ⟨J1, hJ1, h⟩ := h
 refine wp_seq_join (σ := (Option Addr)) (fun s vj1 => ⟨#[.pointer (some ⟨b1, o1, none⟩), .int .i64 x1, .slice A1 n1 c1, undef, undef, undef, .pointer s, vj1 7, vj1 8, vj1 9, undef, undef, undef, undef, .pointer (some ⟨b1, o1, none⟩), .pointer (some ⟨b1, o1, none⟩), .pointer (some ⟨b1, (o1 + 35), none⟩), vj1 17, .pointer (some ⟨b1, o1, none⟩), .pointer (some ⟨b1, o1, none⟩), .pointer (some ⟨b1, (o1 + 34), none⟩), vj1 21, .int .i64 x1, vj1 23, vj1 24, vj1 25, vj1 26, vj1 27, vj1 28, vj1 29, vj1 30, vj1 31, vj1 32, vj1 33, vj1 34, vj1 35, undef, undef, undef, undef, undef, undef, undef, undef, undef, undef, undef, undef, undef, undef, undef, undef, undef, undef, undef, undef, undef, undef, undef, undef, undef, undef, undef, undef, undef, undef, undef, undef, undef, undef, undef, undef, undef, undef, undef, undef, undef, undef, undef, undef, undef, undef, undef, undef, undef, undef], []⟩) (fun s w => J1 s w) ?_ ?_
 ·clear h; rintro p3 vj1 w1 hj
  have h := hJ1 p3 w1 hj
  refine wp_seq (qbj (Keep w1) [10] ?_)
  intro w2 e1; have hK1 := keep_drew e1; replace h := h w2 e1
  refine qbo 0 rfl (qbz (v := .pointer (some ⟨b1, o1, none⟩))) (qbo 1 rfl (qbz (v := .pointer (some ⟨b1, o1, none⟩))) (qbo 2 rfl (qbz (v := .pointer (some ⟨b1, (o1 + 34), none⟩))) ?_))
  obtain ⟨A2, n2, c2, hx, h⟩ := h
  refine qbn 3 rfl (qbx (cs := ([.slice A2 n2 c2] : List Value)) rfl Tryz.isAgg32 Tryz.sizeOf32 (by simp []) (fun _ hk => keep_range hk hx)) hK1 ?_
  refine qbo 4 rfl (qbz (v := .int .i64 x1)) (qbo 5 rfl (qbz (v := .pointer p3)) ?_)
  obtain ⟨b2, o2, rfl, h⟩ := h
  refine qbo 6 rfl (qbz (v := .pointer (some ⟨b2, o2, none⟩))) (qbo 7 rfl (qbz (v := .pointer (some ⟨b2, o2, none⟩))) ?_)
  obtain ⟨x2, hx, h⟩ := h
  refine qbn 8 rfl (qbw (v := .int .i64 x2) rfl Tryz.isAgg3 (fun _ hk => keep_cell hk hx)) hK1 ?_
  refine qbo 9 rfl (qbz (v := .int .i64 (IntKind.i64.wrap (1 - x2)))) (qbm 10 rfl (qai (args := #[.agg #[.slice A2 n2 c2], .int .i64 x1, .int .i64 (IntKind.i64.wrap (1 - x2))]) rfl Tryz.call45 (Ret.mono h ?_)))
  clear h; rintro r1 w3 ⟨x3, rfl, h⟩
  refine ⟨fun hh => absurd hh (by decide), ?_⟩
  refine qbo 11 rfl (qbz (v := .int .i64 x3)) (qbk (qz ?_))
  obtain ⟨J2, hJ2, h⟩ := h
  refine wp_seq_join (σ := (Option Addr) × Nat × Nat × (Option Addr)) (fun s vj2 => ⟨#[.pointer (some ⟨b1, o1, none⟩), .int .i64 x1, .slice A1 n1 c1, undef, undef, undef, .pointer (some ⟨b2, o2, none⟩), vj1 7, vj1 8, vj1 9, .int .i64 x3, .slice s.1 s.2.1 s.2.2.1, .pointer s.2.2.2, vj2 13, .pointer (some ⟨b1, o1, none⟩), .pointer (some ⟨b1, o1, none⟩), .pointer (some ⟨b1, (o1 + 35), none⟩), vj1 17, .pointer (some ⟨b1, o1, none⟩), .pointer (some ⟨b1, o1, none⟩), .pointer (some ⟨b1, (o1 + 34), none⟩), vj1 21, .int .i64 x1, vj1 23, vj1 24, vj1 25, vj1 26, vj1 27, vj1 28, vj1 29, vj1 30, vj1 31, vj1 32, vj1 33, vj1 34, vj1 35, .pointer (some ⟨b1, o1, none⟩), .pointer (some ⟨b1, o1, none⟩), .pointer (some ⟨b1, (o1 + 34), none⟩), .agg #[.slice A2 n2 c2], .int .i64 x1, .pointer (some ⟨b2, o2, none⟩), .pointer (some ⟨b2, o2, none⟩), .pointer (some ⟨b2, o2, none⟩), .int .i64 x2, .int .i64 (IntKind.i64.wrap (1 - x2)), .int .i64 x3, vj2 47, .pointer (some ⟨b1, o1, none⟩), .pointer (some ⟨b1, o1, none⟩), .pointer (some ⟨b1, o1, none⟩), vj2 51, .pointer (some ⟨b1, o1, none⟩), .pointer (some ⟨b1, o1, none⟩), .pointer (some ⟨b1, (o1 + 1), none⟩), vj2 55, .pointer (some ⟨b1, o1, none⟩), .pointer (some ⟨b1, o1, none⟩), .pointer (some ⟨b1, (o1 + 33), none⟩), vj2 59, .pointer (some ⟨b2, o2, none⟩), .pointer (some ⟨b2, o2, none⟩), .pointer (some ⟨b2, o2, none⟩), vj2 63, vj2 64, .int .i64 x3, .slice A1 n1 c1, vj2 67, vj2 68, vj2 69, vj2 70, undef, undef, undef, undef, undef, undef, undef, undef, undef, undef, undef, undef, undef, undef, undef], []⟩) (fun s w => J2 s.1 s.2.1 s.2.2.1 s.2.2.2 w) ?_ ?_
  ·clear h; rintro ⟨A4, n4, c4, p5⟩ vj2 w4 hj
   have h := hJ2 A4 n4 c4 p5 w4 hj
   refine wp_seq (qx (qbt 4 ?_))
   obtain ⟨A5, n5, c5, hx, h⟩ := h
   refine qq (qap (v := .slice A5 n5 c5) rfl Tryz.isAgg44 hx ?_)
   refine qbt 3 (qq (qag (cs := ([.int .i64 x3, .slice A4 n4 c4] : List Value)) rfl Tryz.underlying44 Tryz.sizeOf70 Tryz.zeroValue70 (by kernel_rfl) (by decide) (by decide) ?_))
   intro b3 w5 e1 e2; replace h := h b3 w5 e1 e2
   obtain ⟨l1, l2, h1, h2, h3, h4, h5, h6, h7, h⟩ := h
   refine qq (qad (A := A5) (n := n5) (c := c5) (B := (some ⟨b3, 0, none⟩)) (m := 1) (c2 := 1) (olds := l1) (news := l2) rfl Tryz.underlying44 Tryz.underlying44 Tryz.typeInfo70 rfl (by decide) h1 h2 h3 h4 h5 h6 h7 ?_)
   intro A6 c6 w6 e1; replace h := h A6 c6 w6 e1
   refine qbt 2 ?_
   obtain ⟨hc, hf, h⟩ := h
   refine qq (qbc (v := .slice A6 (n5 + 1) c6) rfl Tryz.sizeOf44 rfl hc hf ?_)
   intro w7 e1; replace h := h w7 e1
   refine qo (qz (qx (qbt 1 ?_)))
   obtain ⟨b4, o3, rfl, h⟩ := h
   obtain ⟨x4, x5, d1, hl0, hx, h⟩ := h
   refine qq (qaq (cs := (([.int .i64 x4, .int .u32 x5] : List Value) ++ d1)) rfl Tryz.isAgg46 Tryz.sizeOf46 (by simp [hl0]) hx ?_)
   refine qbt 1 ?_
   obtain ⟨hl, h1, hw, h⟩ := h
   refine qq (qbd (cs := (([.int .i64 x4, .int .u32 x5] : List Value) ++ d1)) rfl Tryz.sizeOf46 hl h1 hw ?_)
   intro w8 e1; replace h := h w8 e1
   refine qo ?_
   exact qbg (v := .tuple #[]) h
  ·clear hJ2
   refine qbj (Keep w3) [19, 26] ?_
   intro w9 e1; have hK2 := keep_drew e1; replace h := h w9 e1; have hz1 : w3.heap.size ≤ w9.heap.size := (by rw [e1]; exact Nat.le_refl _)
   refine qbo 0 rfl (qbz (v := .pointer (some ⟨b1, o1, none⟩))) (qbo 1 rfl (qbz (v := .pointer (some ⟨b1, o1, none⟩))) (qbo 2 rfl (qbz (v := .pointer (some ⟨b1, o1, none⟩))) ?_))
   obtain ⟨p6, hx, h⟩ := h
   refine qbn 3 rfl (qbw (v := .pointer p6) rfl Tryz.isAgg72 (fun _ hk => keep_cell hk hx)) hK2 ?_
   refine qbo 4 rfl (qbz (v := .pointer (some ⟨b1, o1, none⟩))) (qbo 5 rfl (qbz (v := .pointer (some ⟨b1, o1, none⟩))) (qbo 6 rfl (qbz (v := .pointer (some ⟨b1, (o1 + 1), none⟩))) ?_))
   obtain ⟨d2, hl0, hx, h⟩ := h
   refine qbn 7 rfl (qbx (cs := d2) rfl Tryz.isAgg22 Tryz.sizeOf22 (by simp [hl0]) (fun _ hk => keep_range hk hx)) hK2 ?_
   refine qbo 8 rfl (qbz (v := .pointer (some ⟨b1, o1, none⟩))) (qbo 9 rfl (qbz (v := .pointer (some ⟨b1, o1, none⟩))) (qbo 10 rfl (qbz (v := .pointer (some ⟨b1, (o1 + 33), none⟩))) ?_))
   obtain ⟨x6, hx, h⟩ := h
   refine qbn 11 rfl (qbw (v := .int .u32 x6) rfl Tryz.isAgg23 (fun _ hk => keep_cell hk hx)) hK2 ?_
   refine qbo 12 rfl (qbz (v := .pointer (some ⟨b2, o2, none⟩))) (qbo 13 rfl (qbz (v := .pointer (some ⟨b2, o2, none⟩))) (qbo 14 rfl (qbz (v := .pointer (some ⟨b2, o2, none⟩))) ?_))
   obtain ⟨x7, hx, h⟩ := h
   refine qbn 15 rfl (qbw (v := .int .i64 x7) rfl Tryz.isAgg3 (fun _ hk => keep_cell hk hx)) hK2 ?_
   refine qbo 16 rfl (qbz (v := .int .i64 (IntKind.i64.wrap (1 - x7)))) (qbo 17 rfl (qbz (v := .int .i64 x3)) (qbo 18 rfl (qbz (v := .slice A1 n1 c1)) ?_))
   have hE1_0 : Ext w9 w9 := Mod.refl _ _; have hF1_0 := Fl.nil w9
   refine qbq 19 24 rfl rfl ?_ ?_
   ·
    replace h := h  w9 hE1_0 (hF1_0.sub (by simp [Value.cells]))
    refine (qai (args := #[.pointer p6, .agg d2.toArray, .int .u32 x6, .int .i64 (IntKind.i64.wrap (1 - x7)), .int .i64 x3, .slice A1 n1 c1]) rfl Tryz.call46 (Ret.mono h ?_))
    clear h; rintro r2 wq1_0 ⟨A7, n6, c7, x8, x9, d3, x10, rfl, hl0, hkf, h⟩
    have hE1_1 : Ext wq1_0 wq1_0 := Mod.refl _ _; have hF1_1 := hF1_0.call hkf; have hz1_1 : w3.heap.size ≤ wq1_0.heap.size := (by have := hkf.1; omega)
    refine ⟨fun hh => absurd hh (by decide), ?_⟩
    refine qbo 20 rfl (qbz (v := .tuple #[.slice A7 n6 c7, .agg (([.int .i64 x8, .int .u32 x9] : List Value) ++ d3).toArray, .int .i64 x10])) (qbo 21 rfl (qbz (v := .slice A7 n6 c7)) (qbo 22 rfl (qbz (v := .agg (([.int .i64 x8, .int .u32 x9] : List Value) ++ d3).toArray)) (qbo 23 rfl (qbz (v := .int .i64 x10)) (qbm 24 rfl ((qac rfl Tryz.zeroValue46 ?_))))))
    intro bF1_24 wz1 e1 e2
    have hA := (Mod.refl (fun _ => False) wq1_0).alloc e2
    have hE1_2 := hE1_1.trans hA; have hF1_2 := hF1_1.alloc (cs := (([.int .i64 0, .int .u32 0] : List Value) ++ (List.replicate 32 (.int .u8 0 : Value))).toArray) (t := 46) e1 e2; have hz1_2 : w3.heap.size ≤ wz1.heap.size := (by have := hA.size; omega)
    refine ⟨fun _ hk => Keep.of_ext hk hz1_1 hA, ?_⟩
    replace h := h bF1_24 wz1 hE1_2 (hF1_2.sub (by simp [Value.cells]))
    refine qbo 25 rfl (qbz (v := .slice A7 n6 c7)) ?_
    obtain ⟨hl, h1, hw, h⟩ := h
    refine qbm 26 rfl (qbd (cs := (([.int .i64 x8, .int .u32 x9] : List Value) ++ d3)) rfl Tryz.sizeOf46 hl h1 hw ?_)
    intro w1010 e1; replace h := h w1010 e1
    refine ⟨fun hh => absurd hh (by decide), ?_⟩
    refine qbo 27 rfl (qbz (v := .int .i64 x10)) (qbk (qz ?_))
    exact ⟨(A7, n6, c7, (some ⟨bF1_24, 0, none⟩)), h, qaa⟩
   ·
    refine (qac rfl Tryz.zeroValue46 ?_)
    intro bF1_24 w1011 e1 e2
    have hA := (Mod.refl (fun _ => False) w9).alloc e2
    have hE1_1003 := hE1_0.trans hA; have hF1_1003 := hF1_0.alloc (cs := (([.int .i64 0, .int .u32 0] : List Value) ++ (List.replicate 32 (.int .u8 0 : Value))).toArray) (t := 46) e1 e2; have hz1_1003 : w3.heap.size ≤ w1011.heap.size := (by have := hA.size; omega)
    refine ⟨fun _ hk => Keep.of_ext hk hz1 hA, ?_⟩
    refine qbm 19 rfl ?_
    replace h := h  w1011 hE1_1003 (hF1_1003.sub (by simp [Value.cells]))
    refine (qai (args := #[.pointer p6, .agg d2.toArray, .int .u32 x6, .int .i64 (IntKind.i64.wrap (1 - x7)), .int .i64 x3, .slice A1 n1 c1]) rfl Tryz.call46 (Ret.mono h ?_))
    clear h; rintro r1003 wz1 ⟨A7, n6, c7, x8, x9, d3, x10, rfl, hl0, hkf, h⟩
    have hE1_1004 : Ext wz1 wz1 := Mod.refl _ _; have hF1_1004 := hF1_1003.call hkf; have hz1_1004 : w3.heap.size ≤ wz1.heap.size := (by have := hkf.1; omega)
    refine ⟨fun hh => absurd hh (by decide), ?_⟩
    replace h := h bF1_24 wz1 hE1_1004 (hF1_1004.sub (by simp [Value.cells]))
    refine qbo 20 rfl (qbz (v := .tuple #[.slice A7 n6 c7, .agg (([.int .i64 x8, .int .u32 x9] : List Value) ++ d3).toArray, .int .i64 x10])) (qbo 21 rfl (qbz (v := .slice A7 n6 c7)) (qbo 22 rfl (qbz (v := .agg (([.int .i64 x8, .int .u32 x9] : List Value) ++ d3).toArray)) (qbo 23 rfl (qbz (v := .int .i64 x10)) (qbo 25 rfl (qbz (v := .slice A7 n6 c7)) ?_))))
    obtain ⟨hl, h1, hw, h⟩ := h
    refine qbm 26 rfl (qbd (cs := (([.int .i64 x8, .int .u32 x9] : List Value) ++ d3)) rfl Tryz.sizeOf46 hl h1 hw ?_)
    intro w1010 e1; replace h := h w1010 e1
    refine ⟨fun hh => absurd hh (by decide), ?_⟩
    refine qbo 27 rfl (qbz (v := .int .i64 x10)) (qbk (qz ?_))
    exact ⟨(A7, n6, c7, (some ⟨bF1_24, 0, none⟩)), h, qaa⟩
 ·clear hJ1
  refine wp_seq (qx (qbt 3 ?_))
  obtain ⟨A1008, n1007, c1008, hx, h⟩ := h
  refine qq (qaq (cs := ([.slice A1008 n1007 c1008] : List Value)) rfl Tryz.isAgg32 Tryz.sizeOf32 (by simp []) hx ?_)
  refine qbt 1 (qq (qai (args := #[.agg #[.slice A1008 n1007 c1008], .int .i64 x1]) rfl Tryz.call44 (Ret.mono h ?_)))
  clear h; rintro r1004 w1012 ⟨x1011, x1012, q1005, rfl, h⟩
  refine qbr (qz (wp_seq (qx (qbr (qz (wp_cond_split (t := q1005) (by kernel_rfl) (fun hb => ?_) (fun hb => ?_)))))))
  ·replace h := h.1 (hb)
   refine qx (qbt 3 ?_)
   obtain ⟨m1, hx, h⟩ := h
   refine qq (qap (v := .map m1) rfl Tryz.isAgg76 hx ?_)
   refine qbt 1 ?_
   obtain ⟨b1005, n1008, f1, rfl, h1, h2, A1009, n1009, c1009, h3, h⟩ := h
   refine qq (qar (b := b1005) (n := n1008) (j := x1011) (z := .slice none 0 0) (v := .slice A1009 n1009 c1009) (f := f1) rfl Tryz.underlying76 Tryz.underlying3 Tryz.zeroValue65 h1 h2 h3 ?_)
   refine qbt 1 ?_
   obtain ⟨b1006, o1004, rfl, h⟩ := h
   obtain ⟨h1, h2, h⟩ := h
   refine qq (qan (k := .i64) (j := x1012) (b := b1006) (off := o1004) (n := n1009) (c := c1009) rfl Tryz.underlying65 Tryz.sizeOf46 h1 h2 ?_)
   refine qbr (qz ?_)
   exact ⟨((some ⟨b1006, (o1004 + (x1012).toNat * 34), none⟩)), h, qaa⟩
  ·replace h := h.2 (hb)
   refine wp_skip (qz ?_)
   exact ⟨((some ⟨b1, (o1 + 35), none⟩)), h, qaa⟩
def S_23 (x1 : Int) (A1 : Option Addr) (n1 c1 : Nat) (A2 : Option Addr) (n2 c2 : Nat) (A3 : Option Addr) (n3 c3 : Nat) (A4 : Option Addr) (n4 c4 : Nat) (w : World) (Q : Value → World → Prop) : Prop :=
 ∀ b1 w1, b1 = w.heap.size → w1 = w.alloc (.cells #[.int .i64 x1, .slice A1 n1 c1, .slice A2 n2 c2] 37) →
 ∃ (I1 : Int → World → Prop) (μ1 : Int → World → Nat), I1 0 w1 ∧
 ∀ x2 w2, I1 x2 w2 →
 (x2 < (n4 : Int) →
 ∀ w3, w3 = w2.drew →
 ∃ b2 o1, A4 = some ⟨b2, o1, none⟩ ∧ (0 : Int) ≤ x2 ∧ x2 < (n4 : Int) ∧
 ∃ x3, w2.cell? ⟨b2, (o1 + (x2).toNat * 2), none⟩ = some (.int .i64 x3) ∧
 (x3 < 0 →
 Q (.bool false) w3) ∧
 (¬ x3 < 0 →
 (0 : Int) ≤ x2 ∧ x2 < (n4 : Int) ∧
 ∃ x4, w2.cell? ⟨b2, (o1 + (x2).toNat * 2), none⟩ = some (.int .i64 x4) ∧
 ∃ x5, w2.cell? ⟨b1, 0, none⟩ = some (.int .i64 x5) ∧
 (x4 ≥ x5 →
 Q (.bool false) w3) ∧
 (¬ x4 ≥ x5 →
 (x2 > 0 →
 (0 : Int) ≤ (IntKind.i64.wrap (x2 - 1)) ∧ (IntKind.i64.wrap (x2 - 1)) < (n4 : Int) ∧
 ∃ x6, w2.cell? ⟨b2, (o1 + ((IntKind.i64.wrap (x2 - 1))).toNat * 2), none⟩ = some (.int .i64 x6) ∧
 (0 : Int) ≤ x2 ∧ x2 < (n4 : Int) ∧
 ∃ x7, w2.cell? ⟨b2, (o1 + (x2).toNat * 2), none⟩ = some (.int .i64 x7) ∧
 (x6 ≥ x7 →
 Q (.bool false) w3) ∧
 (¬ x6 ≥ x7 →
 (0 : Int) ≤ x2 ∧ x2 < (n4 : Int) ∧
 ∃ A5 n5 c5, w2.cell? ⟨b2, ((o1 + (x2).toNat * 2) + 1), none⟩ = some (.slice A5 n5 c5) ∧
 ((n5 : Int) ≠ 256 →
 Q (.bool false) w3) ∧
 ((n5 : Int) = 256 →
 I1 (IntKind.i64.wrap (x2 + 1)) w3 ∧ μ1 (IntKind.i64.wrap (x2 + 1)) w3 < μ1 x2 w2))) ∧
 (¬ x2 > 0 →
 (0 : Int) ≤ x2 ∧ x2 < (n4 : Int) ∧
 ∃ A6 n6 c6, w2.cell? ⟨b2, ((o1 + (x2).toNat * 2) + 1), none⟩ = some (.slice A6 n6 c6) ∧
 ((n6 : Int) ≠ 256 →
 Q (.bool false) w3) ∧
 ((n6 : Int) = 256 →
 I1 (IntKind.i64.wrap (x2 + 1)) w3 ∧ μ1 (IntKind.i64.wrap (x2 + 1)) w3 < μ1 x2 w2))))) ∧
 (¬ x2 < (n4 : Int) →
 ∀ w4, w4 = w2.drew →
 ∃ x8 A7 n7 c7 A8 n8 c8, w2.rangeAt b1 0 ([.int .i64 x8, .slice A7 n7 c7, .slice A8 n8 c8] : List Value) ∧
 Ret Tryz.prog 26 #[.slice A4 n4 c4] w4 fun r1 w5 => ∃ A9 n9 c9, r1 = .slice A9 n9 c9 ∧
 Keep w2 w5 ∧
 Ret Tryz.prog 25 #[.agg #[.int .i64 x8, .slice A7 n7 c7, .slice A8 n8 c8], .slice A9 n9 c9] w5 fun r2 w6 => ∃ A10 n10 c10, r2 = .slice A10 n10 c10 ∧
 ∃ (I2 : Int → World → Prop) (μ2 : Int → World → Nat), I2 0 w6 ∧
 ∀ x9 w7, I2 x9 w7 →
 (x9 < (n10 : Int) →
 ∃ b3 o2, A10 = some ⟨b3, o2, none⟩ ∧ (0 : Int) ≤ x9 ∧ x9 < (n10 : Int) ∧
 ∃ x10, w7.cell? ⟨b3, (o2 + (x9).toNat * 1), none⟩ = some (.int .i64 x10) ∧
 Ret Tryz.prog 28 #[.slice A3 n3 c3, .int .i64 x10] w7 fun r3 w8 => ∃ A11 n11 c11 q1, r3 = .tuple #[.slice A11 n11 c11, .bool q1] ∧
 ∀ w9, w9 = w8.drew →
 (q1 = false →
 Q (.bool false) w9) ∧
 (q1 = true →
 ∃ x11 A12 n12 c12 A13 n13 c13, w8.rangeAt b1 0 ([.int .i64 x11, .slice A12 n12 c12, .slice A13 n13 c13] : List Value) ∧
 (0 : Int) ≤ x9 ∧ x9 < (n10 : Int) ∧
 ∃ x12, w8.cell? ⟨b3, (o2 + (x9).toNat * 1), none⟩ = some (.int .i64 x12) ∧
 Ret Tryz.prog 29 #[.agg #[.int .i64 x11, .slice A12 n12 c12, .slice A13 n13 c13], .int .i64 x12] w9 fun r4 w10 => ∃ A14 n14 c14, r4 = .slice A14 n14 c14 ∧
 ((n11 : Int) ≠ (n14 : Int) →
 Q (.bool false) w10) ∧
 ((n11 : Int) = (n14 : Int) →
 ∃ (I3 : Int → World → Prop) (μ3 : Int → World → Nat), I3 0 w10 ∧
 ∀ x13 w11, I3 x13 w11 →
 (x13 < (n11 : Int) →
 ∃ b4 o3, A11 = some ⟨b4, o3, none⟩ ∧ (0 : Int) ≤ x13 ∧ x13 < (n11 : Int) ∧
 ∃ (x14 : Int) (x15 : Int) (d1 : List Value), d1.length = 32 ∧ w11.rangeAt b4 (o3 + (x13).toNat * 34) (([.int .i64 x14, .int .u32 x15] : List Value) ++ d1) ∧
 Ret Tryz.prog 24 #[.agg (([.int .i64 x14, .int .u32 x15] : List Value) ++ d1).toArray] w11 fun r5 w12 => ∃ q2, r5 = .bool q2 ∧
 (q2 = false →
 Q (.bool false) w12) ∧
 (q2 = true →
 I3 (IntKind.i64.wrap (x13 + 1)) w12 ∧ μ3 (IntKind.i64.wrap (x13 + 1)) w12 < μ3 x13 w11)) ∧
 (¬ x13 < (n11 : Int) →
 I2 (IntKind.i64.wrap (x9 + 1)) w11 ∧ μ2 (IntKind.i64.wrap (x9 + 1)) w11 < μ2 x9 w7)))) ∧
 (¬ x9 < (n10 : Int) →
 Q (.bool true) w7))
theorem L_23 (x1 : Int) (A1 : Option Addr) (n1 c1 : Nat) (A2 : Option Addr) (n2 c2 : Nat) (A3 : Option Addr) (n3 c3 : Nat) (A4 : Option Addr) (n4 c4 : Nat) (w : World) (Q : Value → World → Prop) (h : S_23 x1 A1 n1 c1 A2 n2 c2 A3 n3 c3 A4 n4 c4 w Q) : Ret Tryz.prog 23 #[.agg #[.int .i64 x1, .slice A1 n1 c1, .slice A2 n2 c2], .slice A3 n3 c3, .slice A4 n4 c4] w Q := by
 unfold S_23 at h
 refine ret_of_wp Tryz.func23 rfl (wp_seq (qx (qq (qaf (v := .agg #[.int .i64 x1, .slice A1 n1 c1, .slice A2 n2 c2]) rfl ?_))))
 intro b1 w1 e1 e2; replace h := h b1 w1 e1 e2
 refine qbr (qz (wp_seq (wp_seq (qx (qbr (qz (wp_block ?_)))))))
 obtain ⟨I1, μ1, hI1, hB1⟩ := h
 refine wp_loop_st (σ := Int) (fun s a => ∃ u1 : Nat → Value, a = ⟨#[.agg #[.int .i64 x1, .slice A1 n1 c1, .slice A2 n2 c2], .slice A3 n3 c3, .slice A4 n4 c4, .pointer (some ⟨b1, 0, none⟩), undef, undef, u1 6, .int .i64 s, undef, undef, undef, undef, undef, u1 13, u1 14, u1 15, u1 16, u1 17, u1 18, u1 19, u1 20, u1 21, u1 22, u1 23, u1 24, u1 25, u1 26, u1 27, u1 28, u1 29, u1 30, u1 31, u1 32, u1 33, u1 34, u1 35, u1 36, u1 37, u1 38, u1 39, u1 40, u1 41, u1 42, u1 43, u1 44, u1 45, u1 46, u1 47, u1 48, u1 49, u1 50, u1 51, u1 52, u1 53, u1 54, u1 55, u1 56, u1 57, u1 58, u1 59, u1 60, u1 61, undef, undef, undef, undef, undef, undef, undef, undef, undef, undef, undef, undef, undef, undef, undef, undef, undef, undef, undef, undef, undef, undef, undef, undef, undef, undef, undef, undef, undef, undef, undef, undef, undef, undef, undef, undef, undef, undef, undef, undef, undef, undef, undef, undef, undef], []⟩) (fun s w => I1 s w) (fun s w => μ1 s w) (0) (qaa) hI1 ?_
 rintro x2 a w2 ⟨u1, rfl⟩ hI1
 have h := hB1 x2 w2 hI1
 refine wp_seq (wp_seq (qx (qbr (qz (wp_cond_split (t := (decide (x2 < (n4 : Int)))) (by kernel_rfl) (fun hb => ?_) (fun hb => ?_))))))
 ·replace h := h.1 (of_decide_eq_true hb)
  refine wp_skip (qz (wp_seq (wp_block (wp_seq (qbj (Keep w2) [] ?_)))))
  intro w3 e1; have hK1 := keep_drew e1; replace h := h w3 e1
  refine qbo 0 rfl (qbz (v := .slice A4 n4 c4)) (qbo 1 rfl (qbz (v := .int .i64 x2)) ?_)
  obtain ⟨b2, o1, rfl, h⟩ := h
  obtain ⟨h1, h2, h⟩ := h
  refine qbo 2 rfl (qbu (k := .i64) (j := x2) (b := b2) (off := o1) (n := n4) (c := c4) rfl Tryz.underlying29 Tryz.sizeOf64 h1 h2) ?_
  refine qbo 3 rfl (qbz (v := .pointer (some ⟨b2, (o1 + (x2).toNat * 2), none⟩))) ?_
  obtain ⟨x3, hx, h⟩ := h
  refine qbn 4 rfl (qbw (v := .int .i64 x3) rfl Tryz.isAgg3 (fun _ hk => keep_cell hk hx)) hK1 ?_
  refine qbo 5 rfl (qbz (v := .bool (decide (x3 < 0)))) (qbo 6 rfl (qbz (v := .bool (decide (x3 < 0)))) (wd_split (e := (decide (x3 < 0))) ?_ ?_))
  ·intro hb; refine qbl 25 (e := (decide (x3 < 0))) (b := true) hb ?_
   replace h := h.1 (of_decide_eq_true hb)
   refine qbo 7 rfl (qcb) (qbo 8 rfl (qcb) (qbo 9 rfl (qcb) (qbo 10 rfl (qcb) (qbn 11 rfl (qcb) hK1 (qbo 12 rfl (qcb) (qbn 13 rfl (qcb) hK1 (qbo 14 rfl (qcb) (qbo 15 rfl (qbz (v := .bool true)) (qbo 16 rfl (qbz (v := .bool true)) (qbo 17 rfl (qcb) (qbo 18 rfl (qcb) (qbo 19 rfl (qcb) (qbo 20 rfl (qcb) (qbo 21 rfl (qcb) (qbo 22 rfl (qcb) (qbo 23 rfl (qcb) (qbo 24 rfl (qcb) (qbn 25 rfl (qcb) hK1 (qbo 26 rfl (qcb) (qbo 27 rfl (qcb) (qbo 28 rfl (qcb) (qbo 29 rfl (qcb) (qbn 30 rfl (qcb) hK1 (qbo 31 rfl (qcb) (qbo 32 rfl (qcb) (qbo 33 rfl (qbz (v := .bool true)) (qbo 34 rfl (qbz (v := .bool true)) (qbo 35 rfl (qcb) (qbo 36 rfl (qcb) (qbo 37 rfl (qcb) (qbo 38 rfl (qcb) (qbn 39 rfl (qcb) hK1 (qbo 40 rfl (qcb) (qbo 41 rfl (qcb) (qbo 42 rfl (qbz (v := .bool true)) (qbk (qz (wp_cond_true (by kernel_rfl) (wp_seq (qx ?_))))))))))))))))))))))))))))))))))))))))
   refine qbr (qz (wp_ret (block_ret (qs (qs (block_ret (qs ?_)))))))
   exact qbh (v := .bool false) h
  ·intro hb; refine qbl 25 (e := (decide (x3 < 0))) (b := false) hb ?_
   replace h := h.2 (of_decide_eq_false hb)
   refine qbo 7 rfl (qbz (v := .slice (some ⟨b2, o1, none⟩) n4 c4)) (qbo 8 rfl (qbz (v := .int .i64 x2)) ?_)
   obtain ⟨h1, h2, h⟩ := h
   refine qbo 9 rfl (qbu (k := .i64) (j := x2) (b := b2) (off := o1) (n := n4) (c := c4) rfl Tryz.underlying29 Tryz.sizeOf64 h1 h2) ?_
   refine qbo 10 rfl (qbz (v := .pointer (some ⟨b2, (o1 + (x2).toNat * 2), none⟩))) ?_
   obtain ⟨x4, hx, h⟩ := h
   refine qbn 11 rfl (qbw (v := .int .i64 x4) rfl Tryz.isAgg3 (fun _ hk => keep_cell hk hx)) hK1 ?_
   refine qbo 12 rfl (qbz (v := .pointer (some ⟨b1, 0, none⟩))) ?_
   obtain ⟨x5, hx, h⟩ := h
   refine qbn 13 rfl (qbw (v := .int .i64 x5) rfl Tryz.isAgg3 (fun _ hk => keep_cell hk hx)) hK1 ?_
   refine qbo 14 rfl (qbz (v := .bool (decide (x4 ≥ x5)))) (qbo 15 rfl (qbz (v := .bool (decide (x4 ≥ x5)))) (qbo 16 rfl (qbz (v := .bool (decide (x4 ≥ x5)))) (wd_split (e := (decide (x4 ≥ x5))) ?_ ?_)))
   ·intro hb; refine qbl 35 (e := (decide (x4 ≥ x5))) (b := true) hb ?_
    replace h := h.1 (of_decide_eq_true hb)
    refine qbo 17 rfl (qcb) (qbo 18 rfl (qcb) (qbo 19 rfl (qcb) (qbo 20 rfl (qcb) (qbo 21 rfl (qcb) (qbo 22 rfl (qcb) (qbo 23 rfl (qcb) (qbo 24 rfl (qcb) (qbn 25 rfl (qcb) hK1 (qbo 26 rfl (qcb) (qbo 27 rfl (qcb) (qbo 28 rfl (qcb) (qbo 29 rfl (qcb) (qbn 30 rfl (qcb) hK1 (qbo 31 rfl (qcb) (qbo 32 rfl (qcb) (qbo 33 rfl (qbz (v := .bool true)) (qbo 34 rfl (qbz (v := .bool true)) (qbo 35 rfl (qcb) (qbo 36 rfl (qcb) (qbo 37 rfl (qcb) (qbo 38 rfl (qcb) (qbn 39 rfl (qcb) hK1 (qbo 40 rfl (qcb) (qbo 41 rfl (qcb) (qbo 42 rfl (qbz (v := .bool true)) (qbk (qz (wp_cond_true (by kernel_rfl) (wp_seq (qx (qbr (qz (wp_ret (block_ret (qs (qs (block_ret (qs ?_))))))))))))))))))))))))))))))))))))))
    exact qbh (v := .bool false) h
   ·intro hb; refine qbl 35 (e := (decide (x4 ≥ x5))) (b := false) hb ?_
    replace h := h.2 (of_decide_eq_false hb)
    refine qbo 17 rfl (qbz (v := .int .i64 x2)) (qbo 18 rfl (qbz (v := .bool (decide (x2 > 0)))) (qbo 19 rfl (qbz (v := .bool (decide (x2 > 0)))) (wd_split (e := (decide (x2 > 0))) ?_ ?_)))
    ·intro hb; refine qbl 38 (e := (decide (x2 > 0))) (b := true) hb ?_
     replace h := h.1 (of_decide_eq_true hb)
     refine qbo 20 rfl (qbz (v := .slice (some ⟨b2, o1, none⟩) n4 c4)) (qbo 21 rfl (qbz (v := .int .i64 x2)) (qbo 22 rfl (qbz (v := .int .i64 (IntKind.i64.wrap (x2 - 1)))) ?_))
     obtain ⟨h1, h2, h⟩ := h
     refine qbo 23 rfl (qbu (k := .i64) (j := (IntKind.i64.wrap (x2 - 1))) (b := b2) (off := o1) (n := n4) (c := c4) rfl Tryz.underlying29 Tryz.sizeOf64 h1 h2) ?_
     refine qbo 24 rfl (qbz (v := .pointer (some ⟨b2, (o1 + ((IntKind.i64.wrap (x2 - 1))).toNat * 2), none⟩))) ?_
     obtain ⟨x6, hx, h⟩ := h
     refine qbn 25 rfl (qbw (v := .int .i64 x6) rfl Tryz.isAgg3 (fun _ hk => keep_cell hk hx)) hK1 ?_
     refine qbo 26 rfl (qbz (v := .slice (some ⟨b2, o1, none⟩) n4 c4)) (qbo 27 rfl (qbz (v := .int .i64 x2)) ?_)
     obtain ⟨h1, h2, h⟩ := h
     refine qbo 28 rfl (qbu (k := .i64) (j := x2) (b := b2) (off := o1) (n := n4) (c := c4) rfl Tryz.underlying29 Tryz.sizeOf64 h1 h2) ?_
     refine qbo 29 rfl (qbz (v := .pointer (some ⟨b2, (o1 + (x2).toNat * 2), none⟩))) ?_
     obtain ⟨x7, hx, h⟩ := h
     refine qbn 30 rfl (qbw (v := .int .i64 x7) rfl Tryz.isAgg3 (fun _ hk => keep_cell hk hx)) hK1 ?_
     refine qbo 31 rfl (qbz (v := .bool (decide (x6 ≥ x7)))) (qbo 32 rfl (qbz (v := .bool (decide (x6 ≥ x7)))) (qbo 33 rfl (qbz (v := .bool (decide (x6 ≥ x7)))) (qbo 34 rfl (qbz (v := .bool (decide (x6 ≥ x7)))) (wd_split (e := (decide (x6 ≥ x7))) ?_ ?_))))
     ·intro hb; refine qbl 53 (e := (decide (x6 ≥ x7))) (b := true) hb ?_
      replace h := h.1 (of_decide_eq_true hb)
      refine qbo 35 rfl (qcb) (qbo 36 rfl (qcb) (qbo 37 rfl (qcb) (qbo 38 rfl (qcb) (qbn 39 rfl (qcb) hK1 (qbo 40 rfl (qcb) (qbo 41 rfl (qcb) (qbo 42 rfl (qbz (v := .bool true)) (qbk (qz (wp_cond_true (by kernel_rfl) (wp_seq (qx (qbr (qz (wp_ret (block_ret (qs (qs (block_ret (qs ?_))))))))))))))))))))
      exact qbh (v := .bool false) h
     ·intro hb; refine qbl 53 (e := (decide (x6 ≥ x7))) (b := false) hb ?_
      replace h := h.2 (of_decide_eq_false hb)
      refine qbo 35 rfl (qbz (v := .slice (some ⟨b2, o1, none⟩) n4 c4)) (qbo 36 rfl (qbz (v := .int .i64 x2)) ?_)
      obtain ⟨h1, h2, h⟩ := h
      refine qbo 37 rfl (qbu (k := .i64) (j := x2) (b := b2) (off := o1) (n := n4) (c := c4) rfl Tryz.underlying29 Tryz.sizeOf64 h1 h2) ?_
      refine qbo 38 rfl (qbz (v := .pointer (some ⟨b2, ((o1 + (x2).toNat * 2) + 1), none⟩))) ?_
      obtain ⟨A5, n5, c5, hx, h⟩ := h
      refine qbn 39 rfl (qbw (v := .slice A5 n5 c5) rfl Tryz.isAgg62 (fun _ hk => keep_cell hk hx)) hK1 ?_
      refine qbo 40 rfl (qbz (v := .int .i64 (n5 : Int))) (qbo 41 rfl (qbz (v := .bool ((n5 : Int) != 256))) (qbo 42 rfl (qbz (v := .bool ((n5 : Int) != 256))) (qbk (qz (wp_cond_split (t := ((n5 : Int) != 256)) (by kernel_rfl) (fun hb => ?_) (fun hb => ?_))))))
      ·replace h := h.1 (bne_iff_ne.1 hb)
       refine wp_seq (qx (qbr (qz (wp_ret (block_ret (qs (qs (block_ret (qs ?_)))))))))
       exact qbh (v := .bool false) h
      ·replace h := h.2 (bne_false hb)
       refine wp_skip (qu (qz (qx (qbr (qz ?_)))))
       exact ⟨((IntKind.i64.wrap (x2 + 1))), qaa, h.1, h.2⟩
    ·intro hb; refine qbl 38 (e := (decide (x2 > 0))) (b := false) hb ?_
     replace h := h.2 (of_decide_eq_false hb)
     refine qbo 20 rfl (qcb) (qbo 21 rfl (qcb) (qbo 22 rfl (qcb) (qbo 23 rfl (qcb) (qbo 24 rfl (qcb) (qbn 25 rfl (qcb) hK1 (qbo 26 rfl (qcb) (qbo 27 rfl (qcb) (qbo 28 rfl (qcb) (qbo 29 rfl (qcb) (qbn 30 rfl (qcb) hK1 (qbo 31 rfl (qcb) (qbo 32 rfl (qbz (v := .bool false)) (qbo 33 rfl (qbz (v := .bool false)) (qbo 34 rfl (qbz (v := .bool false)) (qbo 35 rfl (qbz (v := .slice (some ⟨b2, o1, none⟩) n4 c4)) (qbo 36 rfl (qbz (v := .int .i64 x2)) ?_))))))))))))))))
     obtain ⟨h1, h2, h⟩ := h
     refine qbo 37 rfl (qbu (k := .i64) (j := x2) (b := b2) (off := o1) (n := n4) (c := c4) rfl Tryz.underlying29 Tryz.sizeOf64 h1 h2) ?_
     refine qbo 38 rfl (qbz (v := .pointer (some ⟨b2, ((o1 + (x2).toNat * 2) + 1), none⟩))) ?_
     obtain ⟨A6, n6, c6, hx, h⟩ := h
     refine qbn 39 rfl (qbw (v := .slice A6 n6 c6) rfl Tryz.isAgg62 (fun _ hk => keep_cell hk hx)) hK1 ?_
     refine qbo 40 rfl (qbz (v := .int .i64 (n6 : Int))) (qbo 41 rfl (qbz (v := .bool ((n6 : Int) != 256))) (qbo 42 rfl (qbz (v := .bool ((n6 : Int) != 256))) (qbk (qz (wp_cond_split (t := ((n6 : Int) != 256)) (by kernel_rfl) (fun hb => ?_) (fun hb => ?_))))))
     ·replace h := h.1 (bne_iff_ne.1 hb)
      refine wp_seq (qx (qbr (qz (wp_ret (block_ret (qs (qs (block_ret (qs ?_)))))))))
      exact qbh (v := .bool false) h
     ·replace h := h.2 (bne_false hb)
      refine wp_skip (qu (qz (qx (qbr (qz ?_)))))
      exact ⟨((IntKind.i64.wrap (x2 + 1))), qaa, h.1, h.2⟩
 ·replace h := h.2 (of_decide_eq_false hb)
  refine wp_exit (qr (qr (block_exit_eq (qz (wp_seq (qbj (Keep w2) [3] ?_))))))
  intro w4 e1; have hK2 := keep_drew e1; replace h := h w4 e1
  obtain ⟨x8, A7, n7, c7, A8, n8, c8, hx, h⟩ := h
  refine qbn 0 rfl (qbx (cs := ([.int .i64 x8, .slice A7 n7 c7, .slice A8 n8 c8] : List Value)) rfl Tryz.isAgg37 Tryz.sizeOf37 (by simp []) (fun _ hk => keep_range hk hx)) hK2 ?_
  refine qbo 1 rfl (qbz (v := .slice A4 n4 c4)) (qbm 2 rfl (qai (args := #[.slice A4 n4 c4]) rfl Tryz.call26 (Ret.mono h ?_)))
  clear h; rintro r1 w5 ⟨A9, n9, c9, rfl, h⟩
  obtain ⟨hK3, h⟩ := h
  refine ⟨fun _ _ => hK3, ?_⟩
  refine qbm 3 rfl (qai (args := #[.agg #[.int .i64 x8, .slice A7 n7 c7, .slice A8 n8 c8], .slice A9 n9 c9]) rfl Tryz.call25 (Ret.mono h ?_))
  clear h; rintro r2 w6 ⟨A10, n10, c10, rfl, h⟩
  refine ⟨fun hh => absurd hh (by decide), ?_⟩
  refine qbo 4 rfl (qbz (v := .slice A10 n10 c10)) (qbk (qz (wp_seq (wp_seq (qx (qbr (qz (wp_block ?_))))))))
  obtain ⟨I2, μ2, hI2, hB2⟩ := h
  refine wp_loop_st (σ := Int) (fun s a => ∃ u2 : Nat → Value, a = ⟨#[.agg #[.int .i64 x1, .slice A1 n1 c1, .slice A2 n2 c2], .slice A3 n3 c3, .slice A4 n4 c4, .pointer (some ⟨b1, 0, none⟩), undef, undef, u2 6, .int .i64 x2, .slice A10 n10 c10, .int .i64 s, u2 10, u2 11, u2 12, .int .i64 x2, .slice A4 n4 c4, .int .i64 (n4 : Int), .bool (decide (x2 < (n4 : Int))), u1 17, u1 18, u1 19, u1 20, u1 21, u1 22, u1 23, u1 24, u1 25, u1 26, u1 27, u1 28, u1 29, u1 30, u1 31, u1 32, u1 33, u1 34, u1 35, u1 36, u1 37, u1 38, u1 39, u1 40, u1 41, u1 42, u1 43, u1 44, u1 45, u1 46, u1 47, u1 48, u1 49, u1 50, u1 51, u1 52, u1 53, u1 54, u1 55, u1 56, u1 57, u1 58, u1 59, u1 60, u1 61, .agg #[.int .i64 x8, .slice A7 n7 c7, .slice A8 n8 c8], .slice A4 n4 c4, .slice A9 n9 c9, .slice A10 n10 c10, u2 66, u2 67, u2 68, u2 69, u2 70, u2 71, u2 72, u2 73, u2 74, u2 75, u2 76, u2 77, u2 78, u2 79, u2 80, u2 81, u2 82, u2 83, u2 84, u2 85, u2 86, u2 87, u2 88, u2 89, u2 90, u2 91, u2 92, u2 93, u2 94, u2 95, u2 96, u2 97, u2 98, u2 99, u2 100, u2 101, u2 102, u2 103, u2 104, u2 105, u2 106], []⟩) (fun s w => I2 s w) (fun s w => μ2 s w) (0) (qaa) hI2 ?_
  rintro x9 a w7 ⟨u2, rfl⟩ hI2
  have h := hB2 x9 w7 hI2
  refine wp_seq (wp_seq (qx (qbr (qz (wp_cond_split (t := (decide (x9 < (n10 : Int)))) (by kernel_rfl) (fun hb => ?_) (fun hb => ?_))))))
  ·replace h := h.1 (of_decide_eq_true hb)
   refine wp_skip (qz (wp_seq (wp_block (wp_seq (qx (qbt 3 ?_))))))
   obtain ⟨b3, o2, rfl, h⟩ := h
   obtain ⟨h1, h2, h⟩ := h
   refine qq (qan (k := .i64) (j := x9) (b := b3) (off := o2) (n := n10) (c := c10) rfl Tryz.underlying30 Tryz.sizeOf3 h1 h2 ?_)
   obtain ⟨x10, hx, h⟩ := h
   refine qq (qap (v := .int .i64 x10) rfl Tryz.isAgg3 hx ?_)
   refine qq (qai (args := #[.slice A3 n3 c3, .int .i64 x10]) rfl Tryz.call28 (Ret.mono h ?_))
   clear h; rintro r3 w8 ⟨A11, n11, c11, q1, rfl, h⟩
   refine qbr (qz (wp_seq (wp_seq (qbj (Keep w8) [10] ?_))))
   intro w9 e1; have hK4 := keep_drew e1; replace h := h w9 e1
   refine qbo 0 rfl (qbz (v := .bool q1)) (qbo 1 rfl (qbz (v := .bool (!q1))) (qbo 2 rfl (qbz (v := .bool (!q1))) (wd_split (e := (!q1)) ?_ ?_)))
   ·intro hb; refine qbl 83 (e := (!q1)) (b := true) hb ?_
    replace h := h.1 ((not_flip hb))
    refine qbo 3 rfl (qcb) (qbo 4 rfl (qcb) (qbn 5 rfl (qcb) hK4 (qbo 6 rfl (qcb) (qbo 7 rfl (qcb) (qbo 8 rfl (qcb) (qbn 9 rfl (qcb) hK4 (qbo 10 rfl (qcb) (qbo 11 rfl (qcb) (qbo 12 rfl (qcb) (qbo 13 rfl (qbz (v := .bool true)) (qbk (qz (wp_cond_true (by kernel_rfl) (wp_seq (qx (qbr (qz (wp_ret (qs (block_ret (qs (qs (block_ret (qs ?_))))))))))))))))))))))))
    exact qbh (v := .bool false) h
   ·intro hb; refine qbl 83 (e := (!q1)) (b := false) hb ?_
    replace h := h.2 ((not_flip hb))
    refine qbo 3 rfl (qbz (v := .slice A11 n11 c11)) (qbo 4 rfl (qbz (v := .int .i64 (n11 : Int))) ?_)
    obtain ⟨x11, A12, n12, c12, A13, n13, c13, hx, h⟩ := h
    refine qbn 5 rfl (qbx (cs := ([.int .i64 x11, .slice A12 n12 c12, .slice A13 n13 c13] : List Value)) rfl Tryz.isAgg37 Tryz.sizeOf37 (by simp []) (fun _ hk => keep_range hk hx)) hK4 ?_
    refine qbo 6 rfl (qbz (v := .slice (some ⟨b3, o2, none⟩) n10 c10)) (qbo 7 rfl (qbz (v := .int .i64 x9)) ?_)
    obtain ⟨h1, h2, h⟩ := h
    refine qbo 8 rfl (qbu (k := .i64) (j := x9) (b := b3) (off := o2) (n := n10) (c := c10) rfl Tryz.underlying30 Tryz.sizeOf3 h1 h2) ?_
    obtain ⟨x12, hx, h⟩ := h
    refine qbn 9 rfl (qbw (v := .int .i64 x12) rfl Tryz.isAgg3 (fun _ hk => keep_cell hk hx)) hK4 ?_
    refine qbm 10 rfl (qai (args := #[.agg #[.int .i64 x11, .slice A12 n12 c12, .slice A13 n13 c13], .int .i64 x12]) rfl Tryz.call29 (Ret.mono h ?_))
    clear h; rintro r4 w10 ⟨A14, n14, c14, rfl, h⟩
    refine ⟨fun hh => absurd hh (by decide), ?_⟩
    refine qbo 11 rfl (qbz (v := .int .i64 (n14 : Int))) (qbo 12 rfl (qbz (v := .bool ((n11 : Int) != (n14 : Int)))) (qbo 13 rfl (qbz (v := .bool ((n11 : Int) != (n14 : Int)))) (qbk (qz (wp_cond_split (t := ((n11 : Int) != (n14 : Int))) (by kernel_rfl) (fun hb => ?_) (fun hb => ?_))))))
    ·replace h := h.1 (bne_iff_ne.1 hb)
     refine wp_seq (qx (qbr (qz (wp_ret (qs (block_ret (qs (qs (block_ret (qs ?_))))))))))
     exact qbh (v := .bool false) h
    ·replace h := h.2 (bne_false hb)
     refine wp_skip (qz (wp_seq (qx (qbr (qz (wp_block ?_))))))
     obtain ⟨I3, μ3, hI3, hB3⟩ := h
     refine wp_loop_st (σ := Int) (fun s a => ∃ u3 : Nat → Value, a = ⟨#[.agg #[.int .i64 x1, .slice A1 n1 c1, .slice A2 n2 c2], .slice A3 n3 c3, .slice A4 n4 c4, .pointer (some ⟨b1, 0, none⟩), undef, undef, u3 6, .int .i64 x2, .slice (some ⟨b3, o2, none⟩) n10 c10, .int .i64 x9, .slice A11 n11 c11, .bool q1, .int .i64 s, .int .i64 x2, .slice A4 n4 c4, .int .i64 (n4 : Int), .bool (decide (x2 < (n4 : Int))), u1 17, u1 18, u1 19, u1 20, u1 21, u1 22, u1 23, u1 24, u1 25, u1 26, u1 27, u1 28, u1 29, u1 30, u1 31, u1 32, u1 33, u1 34, u1 35, u1 36, u1 37, u1 38, u1 39, u1 40, u1 41, u1 42, u1 43, u1 44, u1 45, u1 46, u1 47, u1 48, u1 49, u1 50, u1 51, u1 52, u1 53, u1 54, u1 55, u1 56, u1 57, u1 58, u1 59, u1 60, u1 61, .agg #[.int .i64 x8, .slice A7 n7 c7, .slice A8 n8 c8], .slice A4 n4 c4, .slice A9 n9 c9, .slice (some ⟨b3, o2, none⟩) n10 c10, .int .i64 x9, .slice (some ⟨b3, o2, none⟩) n10 c10, .int .i64 (n10 : Int), .bool (decide (x9 < (n10 : Int))), u2 70, u2 71, .tuple #[.slice A11 n11 c11, .bool q1], .slice A3 n3 c3, .slice (some ⟨b3, o2, none⟩) n10 c10, .int .i64 x9, .pointer (some ⟨b3, (o2 + (x9).toNat * 1), none⟩), .int .i64 x10, .tuple #[.slice A11 n11 c11, .bool q1], .slice A11 n11 c11, .bool q1, .bool q1, .bool (!q1), .bool false, .slice A11 n11 c11, .int .i64 (n11 : Int), .agg #[.int .i64 x11, .slice A12 n12 c12, .slice A13 n13 c13], .slice (some ⟨b3, o2, none⟩) n10 c10, .int .i64 x9, .pointer (some ⟨b3, (o2 + (x9).toNat * 1), none⟩), .int .i64 x12, .slice A14 n14 c14, .int .i64 (n14 : Int), .bool ((n11 : Int) != (n14 : Int)), .bool ((n11 : Int) != (n14 : Int)), u3 95, u3 96, u3 97, u3 98, u3 99, u3 100, u3 101, u3 102, u3 103, u3 104, u3 105, u3 106], []⟩) (fun s w => I3 s w) (fun s w => μ3 s w) (0) (qaa) hI3 ?_
     rintro x13 a w11 ⟨u3, rfl⟩ hI3
     have h := hB3 x13 w11 hI3
     refine wp_seq (wp_seq (qx (qbr (qz (wp_cond_split (t := (decide (x13 < (n11 : Int)))) (by kernel_rfl) (fun hb => ?_) (fun hb => ?_))))))
     ·replace h := h.1 (of_decide_eq_true hb)
      refine wp_skip (qz (wp_seq (wp_block (wp_seq (qx (qbt 2 ?_))))))
      obtain ⟨b4, o3, rfl, h⟩ := h
      obtain ⟨h1, h2, h⟩ := h
      refine qq (qan (k := .i64) (j := x13) (b := b4) (off := o3) (n := n11) (c := c11) rfl Tryz.underlying59 Tryz.sizeOf25 h1 h2 ?_)
      obtain ⟨x14, x15, d1, hl0, hx, h⟩ := h
      refine qq (qaq (cs := (([.int .i64 x14, .int .u32 x15] : List Value) ++ d1)) rfl Tryz.isAgg25 Tryz.sizeOf25 (by simp [hl0]) hx ?_)
      refine qq (qai (args := #[.agg (([.int .i64 x14, .int .u32 x15] : List Value) ++ d1).toArray]) rfl Tryz.call24 (Ret.mono h ?_))
      clear h; rintro r5 w12 ⟨q2, rfl, h⟩
      refine qbr (qz (wp_cond_split (t := (!q2)) (by kernel_rfl) (fun hb => ?_) (fun hb => ?_)))
      ·replace h := h.1 ((not_flip hb))
       refine wp_seq (qx (qbr (qz (wp_ret (block_ret (qs (qs (block_ret (block_ret (qs (qs (block_ret (qs ?_)))))))))))))
       exact qbh (v := .bool false) h
      ·replace h := h.2 ((not_flip hb))
       refine wp_skip (qu (qz (qx (qbr (qz ?_)))))
       exact ⟨((IntKind.i64.wrap (x13 + 1))), qaa, h.1, h.2⟩
     ·replace h := h.2 (of_decide_eq_false hb)
      refine wp_exit (qr (qr (block_exit_eq (qu (qz (qx (qbr (qz ?_))))))))
      exact ⟨((IntKind.i64.wrap (x9 + 1))), qaa, h.1, h.2⟩
  ·replace h := h.2 (of_decide_eq_false hb)
   refine wp_exit (qr (qr (block_exit_eq (qz (wp_seq (qx (qbr (qz (wp_ret ?_)))))))))
   exact qbh (v := .bool true) h
def S_24 (x1 x2 : Int) (d1 : List Value) (w : World) (Q : Value → World → Prop) : Prop :=
 ∀ b1 w1, b1 = w.heap.size → w1 = w.alloc (.cells (([.int .i64 x1, .int .u32 x2] : List Value) ++ d1).toArray 25) →
 ∃ x3, w1.cell? ⟨b1, 0, none⟩ = some (.int .i64 x3) ∧
 (x3 = 0 →
 Q (.bool true) w1) ∧
 (x3 ≠ 0 →
 ∃ x4, w1.cell? ⟨b1, 0, none⟩ = some (.int .i64 x4) ∧
 Q (.bool (x4 == 1)) w1)
theorem L_24 (x1 x2 : Int) (d1 : List Value) (w : World) (Q : Value → World → Prop) (hp0 : d1.length = 32) (h : S_24 x1 x2 d1 w Q) : Ret Tryz.prog 24 #[.agg (([.int .i64 x1, .int .u32 x2] : List Value) ++ d1).toArray] w Q := by
 unfold S_24 at h
 refine ret_of_wp Tryz.func24 rfl (wp_seq (qx (qq (qaf (v := .agg (([.int .i64 x1, .int .u32 x2] : List Value) ++ d1).toArray) rfl ?_))))
 intro b1 w1 e1 e2; replace h := h b1 w1 e1 e2
 refine qbr (qz (wp_seq (qx (qbt 1 ?_))))
 obtain ⟨x3, hx, h⟩ := h
 refine qq (qap (v := .int .i64 x3) rfl Tryz.isAgg3 hx ?_)
 refine qbt 2 (wl_split (e := (x3 == 0)) ?_ ?_)
 ·intro hb; refine qbs 6 (e := (x3 == 0)) (b := true) hb ?_
  replace h := h.1 (eq_of_beq hb)
  refine qbr (qz (wp_ret ?_))
  exact qbh (v := .bool true) h
 ·intro hb; refine qbs 6 (e := (x3 == 0)) (b := false) hb ?_
  replace h := h.2 (ne_of_beq_false hb)
  refine qbt 1 ?_
  obtain ⟨x4, hx, h⟩ := h
  refine qq (qap (v := .int .i64 x4) rfl Tryz.isAgg3 hx ?_)
  refine qbr (qz (wp_ret ?_))
  exact qbh (v := .bool (x4 == 1)) h
def S_25 (x1 : Int) (A1 : Option Addr) (n1 c1 : Nat) (A2 : Option Addr) (n2 c2 : Nat) (A3 : Option Addr) (n3 c3 : Nat) (w : World) (Q : Value → World → Prop) : Prop :=
 ∀ b1 w1, b1 = w.heap.size → w1 = w.alloc (.cells #[.int .i64 x1, .slice A1 n1 c1, .slice A2 n2 c2] 37) →
 ∃ x2, w1.cell? ⟨b1, 0, none⟩ = some (.int .i64 x2) ∧
 ∃ (I1 : (Option Addr) → Nat → Nat → Int → World → Prop) (μ1 : (Option Addr) → Nat → Nat → Int → World → Nat), I1 none 0 0 x2 w1 ∧
 ∀ A4 n4 c4 x3 w2, I1 A4 n4 c4 x3 w2 →
 ∃ A5 n5 c5, w2.cell? ⟨b1, 1, none⟩ = some (.slice A5 n5 c5) ∧
 (x3 < (n5 : Int) →
 ∃ (I2 : (Option Addr) → Nat → Nat → Int → World → Prop) (μ2 : (Option Addr) → Nat → Nat → Int → World → Nat), I2 A4 n4 c4 0 w2 ∧
 ∀ A6 n6 c6 x4 w3, I2 A6 n6 c6 x4 w3 →
 (x4 < (n3 : Int) →
 ∀ w4, w4 = w3.drew →
 ∃ x5 A7 n7 c7 A8 n8 c8, w3.rangeAt b1 0 ([.int .i64 x5, .slice A7 n7 c7, .slice A8 n8 c8] : List Value) ∧
 ∃ b2 o1, A3 = some ⟨b2, o1, none⟩ ∧ (0 : Int) ≤ x4 ∧ x4 < (n3 : Int) ∧
 ∃ x6, w3.cell? ⟨b2, (o1 + (x4).toNat * 1), none⟩ = some (.int .i64 x6) ∧
 Ret Tryz.prog 49 #[.agg #[.int .i64 x5, .slice A7 n7 c7, .slice A8 n8 c8], .int .i64 x6] w4 fun r1 w5 => ∃ A9 n9 c9, r1 = .slice A9 n9 c9 ∧
 Ret Tryz.prog 27 #[.slice A9 n9 c9, .int .i64 x3] w5 fun r2 w6 => ∃ q1, r2 = .bool q1 ∧
 (q1 = true →
 ∀ b3 w7, b3 = w6.heap.size → w7 = w6.alloc (.cells #[.int .i64 x3] 3) →
 ∃ l1 l2 : List Value, (n6 + 1) * 8 ≤ 140737488355328 ∧ l1.length = n6 * 1 ∧ RdS w7 A6 l1 ∧ l2.length = 1 * 1 ∧ RdS w7 (some ⟨b3, 0, none⟩) l2 ∧ One l2 ∧ (n6 + 1 ≤ c6 → Room w7 A6 (n6 * 1) (1 * 1)) ∧
 ∀ A10 c10 w8, Appended w7 3 1 #[.int .i64 0] A6 n6 c6 1 l1 l2 A10 c10 w8 →
 I1 A10 (n6 + 1) c10 (IntKind.i64.wrap (x3 + 1)) w8 ∧ μ1 A10 (n6 + 1) c10 (IntKind.i64.wrap (x3 + 1)) w8 < μ1 A4 n4 c4 x3 w2) ∧
 (q1 = false →
 I2 A6 n6 c6 (IntKind.i64.wrap (x4 + 1)) w6 ∧ μ2 A6 n6 c6 (IntKind.i64.wrap (x4 + 1)) w6 < μ2 A6 n6 c6 x4 w3)) ∧
 (¬ x4 < (n3 : Int) →
 I1 A6 n6 c6 (IntKind.i64.wrap (x3 + 1)) w3 ∧ μ1 A6 n6 c6 (IntKind.i64.wrap (x3 + 1)) w3 < μ1 A4 n4 c4 x3 w2)) ∧
 (¬ x3 < (n5 : Int) →
 Q (.slice A4 n4 c4) w2)
theorem L_25 (x1 : Int) (A1 : Option Addr) (n1 c1 : Nat) (A2 : Option Addr) (n2 c2 : Nat) (A3 : Option Addr) (n3 c3 : Nat) (w : World) (Q : Value → World → Prop) (h : S_25 x1 A1 n1 c1 A2 n2 c2 A3 n3 c3 w Q) : Ret Tryz.prog 25 #[.agg #[.int .i64 x1, .slice A1 n1 c1, .slice A2 n2 c2], .slice A3 n3 c3] w Q := by
 unfold S_25 at h
 refine ret_of_wp Tryz.func25 rfl (wp_seq (qx (qq (qaf (v := .agg #[.int .i64 x1, .slice A1 n1 c1, .slice A2 n2 c2]) rfl ?_))))
 intro b1 w1 e1 e2; replace h := h b1 w1 e1 e2
 refine qbr (qz (wp_seq (qx (qbr (qz (wp_seq (wp_seq (qx (qbt 1 ?_)))))))))
 obtain ⟨x2, hx, h⟩ := h
 refine qq (qap (v := .int .i64 x2) rfl Tryz.isAgg3 hx ?_)
 refine qbr (qz (wp_block ?_))
 obtain ⟨I1, μ1, hI1, hB1⟩ := h
 refine wp_loop_st (σ := (Option Addr) × Nat × Nat × Int) (fun s a => ∃ u1 : Nat → Value, a = ⟨#[.agg #[.int .i64 x1, .slice A1 n1 c1, .slice A2 n2 c2], .slice A3 n3 c3, .pointer (some ⟨b1, 0, none⟩), undef, .slice none 0 0, .slice s.1 s.2.1 s.2.2.1, .int .i64 s.2.2.2, u1 7, .pointer (some ⟨b1, 0, none⟩), .int .i64 x2, u1 10, u1 11, u1 12, u1 13, u1 14, u1 15, u1 16, u1 17, u1 18, u1 19, u1 20, u1 21, u1 22, u1 23, u1 24, u1 25, u1 26, u1 27, u1 28, u1 29, u1 30, u1 31, u1 32, u1 33, u1 34, undef], []⟩) (fun s w => I1 s.1 s.2.1 s.2.2.1 s.2.2.2 w) (fun s w => μ1 s.1 s.2.1 s.2.2.1 s.2.2.2 w) (none, 0, 0, x2) (qaa) hI1 ?_
 rintro ⟨A4, n4, c4, x3⟩ a w2 ⟨u1, rfl⟩ hI1
 have h := hB1 A4 n4 c4 x3 w2 hI1
 refine wp_seq (wp_seq (qx (qbt 2 ?_)))
 obtain ⟨A5, n5, c5, hx, h⟩ := h
 refine qq (qap (v := .slice A5 n5 c5) rfl Tryz.isAgg30 hx ?_)
 refine qbr (qz (wp_cond_split (t := (decide (x3 < (n5 : Int)))) (by kernel_rfl) (fun hb => ?_) (fun hb => ?_)))
 ·replace h := h.1 (of_decide_eq_true hb)
  refine wp_skip (qz (wp_seq (wp_block (wp_seq (qx (qbr (qz (wp_block ?_))))))))
  obtain ⟨I2, μ2, hI2, hB2⟩ := h
  refine wp_loop_st (σ := (Option Addr) × Nat × Nat × Int) (fun s a => ∃ u2 : Nat → Value, a = ⟨#[.agg #[.int .i64 x1, .slice A1 n1 c1, .slice A2 n2 c2], .slice A3 n3 c3, .pointer (some ⟨b1, 0, none⟩), undef, .slice none 0 0, .slice s.1 s.2.1 s.2.2.1, .int .i64 x3, .int .i64 s.2.2.2, .pointer (some ⟨b1, 0, none⟩), .int .i64 x2, .int .i64 x3, .pointer (some ⟨b1, 1, none⟩), .slice A5 n5 c5, .int .i64 (n5 : Int), .bool (decide (x3 < (n5 : Int))), u1 15, u1 16, u2 17, u2 18, u2 19, u2 20, u2 21, u2 22, u2 23, u2 24, u2 25, u2 26, u2 27, u2 28, u2 29, u2 30, u2 31, u2 32, u2 33, u2 34, undef], []⟩) (fun s w => I2 s.1 s.2.1 s.2.2.1 s.2.2.2 w) (fun s w => μ2 s.1 s.2.1 s.2.2.1 s.2.2.2 w) (A4, n4, c4, 0) (qaa) hI2 ?_
  rintro ⟨A6, n6, c6, x4⟩ a w3 ⟨u2, rfl⟩ hI2
  have h := hB2 A6 n6 c6 x4 w3 hI2
  refine wp_seq (wp_seq (qx (qbr (qz (wp_cond_split (t := (decide (x4 < (n3 : Int)))) (by kernel_rfl) (fun hb => ?_) (fun hb => ?_))))))
  ·replace h := h.1 (of_decide_eq_true hb)
   refine wp_skip (qz (wp_seq (wp_block (wp_seq (qbj (Keep w3) [5, 7] ?_)))))
   intro w4 e1; have hK1 := keep_drew e1; replace h := h w4 e1
   obtain ⟨x5, A7, n7, c7, A8, n8, c8, hx, h⟩ := h
   refine qbn 0 rfl (qbx (cs := ([.int .i64 x5, .slice A7 n7 c7, .slice A8 n8 c8] : List Value)) rfl Tryz.isAgg37 Tryz.sizeOf37 (by simp []) (fun _ hk => keep_range hk hx)) hK1 ?_
   refine qbo 1 rfl (qbz (v := .slice A3 n3 c3)) (qbo 2 rfl (qbz (v := .int .i64 x4)) ?_)
   obtain ⟨b2, o1, rfl, h⟩ := h
   obtain ⟨h1, h2, h⟩ := h
   refine qbo 3 rfl (qbu (k := .i64) (j := x4) (b := b2) (off := o1) (n := n3) (c := c3) rfl Tryz.underlying30 Tryz.sizeOf3 h1 h2) ?_
   obtain ⟨x6, hx, h⟩ := h
   refine qbn 4 rfl (qbw (v := .int .i64 x6) rfl Tryz.isAgg3 (fun _ hk => keep_cell hk hx)) hK1 ?_
   refine qbo 6 rfl (qbz (v := .int .i64 x3)) (qbm 5 rfl (qai (args := #[.agg #[.int .i64 x5, .slice A7 n7 c7, .slice A8 n8 c8], .int .i64 x6]) rfl Tryz.call49 (Ret.mono h ?_)))
   clear h; rintro r1 w5 ⟨A9, n9, c9, rfl, h⟩
   refine ⟨fun hh => absurd hh (by decide), ?_⟩
   refine qbm 7 rfl (qai (args := #[.slice A9 n9 c9, .int .i64 x3]) rfl Tryz.call27 (Ret.mono h ?_))
   clear h; rintro r2 w6 ⟨q1, rfl, h⟩
   refine ⟨fun hh => absurd hh (by decide), ?_⟩
   refine qbk (qz (wp_cond_split (t := q1) (by kernel_rfl) (fun hb => ?_) (fun hb => ?_)))
   ·replace h := h.1 (hb)
    refine wp_seq (qx (qbt 2 (qq (qag (cs := ([.int .i64 x3] : List Value)) rfl Tryz.underlying30 Tryz.sizeOf3 Tryz.zeroValue3 (by kernel_rfl) (by decide) (by decide) ?_))))
    intro b3 w7 e1 e2; replace h := h b3 w7 e1 e2
    obtain ⟨l1, l2, h1, h2, h3, h4, h5, h6, h7, h⟩ := h
    refine qq (qad (A := A6) (n := n6) (c := c6) (B := (some ⟨b3, 0, none⟩)) (m := 1) (c2 := 1) (olds := l1) (news := l2) rfl Tryz.underlying30 Tryz.underlying30 Tryz.typeInfo3 rfl (by decide) h1 h2 h3 h4 h5 h6 h7 ?_)
    intro A10 c10 w8 e1; replace h := h A10 c10 w8 e1
    refine qbr (qz (wp_exit (block_exit_ne (by decide) (qr (qr (block_exit_eq (qu (qz (qx (qbr (qz ?_)))))))))))
    exact ⟨(A10, (n6 + 1), c10, (IntKind.i64.wrap (x3 + 1))), qaa, h.1, h.2⟩
   ·replace h := h.2 (hb)
    refine wp_skip (qu (qz (qx (qbr (qz ?_)))))
    exact ⟨(A6, n6, c6, (IntKind.i64.wrap (x4 + 1))), qaa, h.1, h.2⟩
  ·replace h := h.2 (of_decide_eq_false hb)
   refine wp_exit (qr (qr (block_exit_eq (qu (qz (qx (qbr (qz ?_))))))))
   exact ⟨(A6, n6, c6, (IntKind.i64.wrap (x3 + 1))), qaa, h.1, h.2⟩
 ·replace h := h.2 (of_decide_eq_false hb)
  refine wp_exit (qr (qr (block_exit_eq (qz (wp_seq (qx (qbr (qz (wp_ret ?_)))))))))
  exact qbh (v := .slice A4 n4 c4) h
def S_26 (A1 : Option Addr) (n1 c1 : Nat) (w : World) (Q : Value → World → Prop) : Prop :=
 ∃ (I1 : (Option Addr) → Nat → Nat → Int → World → Prop) (μ1 : (Option Addr) → Nat → Nat → Int → World → Nat), I1 none 0 0 0 w ∧
 ∀ A2 n2 c2 x1 w1, I1 A2 n2 c2 x1 w1 →
 (x1 < (n1 : Int) →
 ∃ b1 o1, A1 = some ⟨b1, o1, none⟩ ∧ (0 : Int) ≤ x1 ∧ x1 < (n1 : Int) ∧
 ∃ x2, w1.cell? ⟨b1, (o1 + (x1).toNat * 2), none⟩ = some (.int .i64 x2) ∧
 ∀ b2 w2, b2 = w1.heap.size → w2 = w1.alloc (.cells #[.int .i64 x2] 3) →
 ∃ l1 l2 : List Value, (n2 + 1) * 8 ≤ 140737488355328 ∧ l1.length = n2 * 1 ∧ RdS w2 A2 l1 ∧ l2.length = 1 * 1 ∧ RdS w2 (some ⟨b2, 0, none⟩) l2 ∧ One l2 ∧ (n2 + 1 ≤ c2 → Room w2 A2 (n2 * 1) (1 * 1)) ∧
 ∀ A3 c3 w3, Appended w2 3 1 #[.int .i64 0] A2 n2 c2 1 l1 l2 A3 c3 w3 →
 I1 A3 (n2 + 1) c3 (IntKind.i64.wrap (x1 + 1)) w3 ∧ μ1 A3 (n2 + 1) c3 (IntKind.i64.wrap (x1 + 1)) w3 < μ1 A2 n2 c2 x1 w1) ∧
 (¬ x1 < (n1 : Int) →
 Q (.slice A2 n2 c2) w1)
theorem L_26 (A1 : Option Addr) (n1 c1 : Nat) (w : World) (Q : Value → World → Prop) (h : S_26 A1 n1 c1 w Q) : Ret Tryz.prog 26 #[.slice A1 n1 c1] w Q := by
 unfold S_26 at h
 refine ret_of_wp Tryz.func26 rfl (wp_seq (qx (qbr (qz (wp_seq (qx (qbr (qz (wp_seq (wp_seq (qx (qbr (qz (wp_block ?_))))))))))))))
 obtain ⟨I1, μ1, hI1, hB1⟩ := h
 refine wp_loop_st (σ := (Option Addr) × Nat × Nat × Int) (fun s a => ∃ u1 : Nat → Value, a = ⟨#[.slice A1 n1 c1, undef, .slice none 0 0, .slice s.1 s.2.1 s.2.2.1, .int .i64 s.2.2.2, u1 5, u1 6, u1 7, u1 8, u1 9, u1 10, u1 11, u1 12, u1 13, u1 14, u1 15, u1 16, u1 17, u1 18, undef], []⟩) (fun s w => I1 s.1 s.2.1 s.2.2.1 s.2.2.2 w) (fun s w => μ1 s.1 s.2.1 s.2.2.1 s.2.2.2 w) (none, 0, 0, 0) (qaa) hI1 ?_
 rintro ⟨A2, n2, c2, x1⟩ a w1 ⟨u1, rfl⟩ hI1
 have h := hB1 A2 n2 c2 x1 w1 hI1
 refine wp_seq (wp_seq (qx (qbr (qz (wp_cond_split (t := (decide (x1 < (n1 : Int)))) (by kernel_rfl) (fun hb => ?_) (fun hb => ?_))))))
 ·replace h := h.1 (of_decide_eq_true hb)
  refine wp_skip (qz (wp_seq (wp_block (qx (qbt 3 ?_)))))
  obtain ⟨b1, o1, rfl, h⟩ := h
  obtain ⟨h1, h2, h⟩ := h
  refine qq (qan (k := .i64) (j := x1) (b := b1) (off := o1) (n := n1) (c := c1) rfl Tryz.underlying29 Tryz.sizeOf64 h1 h2 ?_)
  refine qbt 1 ?_
  obtain ⟨x2, hx, h⟩ := h
  refine qq (qap (v := .int .i64 x2) rfl Tryz.isAgg3 hx ?_)
  refine qq (qag (cs := ([.int .i64 x2] : List Value)) rfl Tryz.underlying30 Tryz.sizeOf3 Tryz.zeroValue3 (by kernel_rfl) (by decide) (by decide) ?_)
  intro b2 w2 e1 e2; replace h := h b2 w2 e1 e2
  obtain ⟨l1, l2, h1, h2, h3, h4, h5, h6, h7, h⟩ := h
  refine qq (qad (A := A2) (n := n2) (c := c2) (B := (some ⟨b2, 0, none⟩)) (m := 1) (c2 := 1) (olds := l1) (news := l2) rfl Tryz.underlying30 Tryz.underlying30 Tryz.typeInfo3 rfl (by decide) h1 h2 h3 h4 h5 h6 h7 ?_)
  intro A3 c3 w3 e1; replace h := h A3 c3 w3 e1
  refine qbr (qu (qz (qx (qbr (qz ?_)))))
  exact ⟨(A3, (n2 + 1), c3, (IntKind.i64.wrap (x1 + 1))), qaa, h.1, h.2⟩
 ·replace h := h.2 (of_decide_eq_false hb)
  refine wp_exit (qr (qr (block_exit_eq (qz (wp_seq (qx (qbr (qz (wp_ret ?_)))))))))
  exact qbh (v := .slice A2 n2 c2) h
def S_27 (A1 : Option Addr) (n1 c1 : Nat) (x1 : Int) (w : World) (Q : Value → World → Prop) : Prop :=
 ∃ (I1 : Int → World → Prop) (μ1 : Int → World → Nat), I1 0 w ∧
 ∀ x2 w1, I1 x2 w1 →
 (x2 < (n1 : Int) →
 ∃ b1 o1, A1 = some ⟨b1, o1, none⟩ ∧ (0 : Int) ≤ x2 ∧ x2 < (n1 : Int) ∧
 ∃ x3, w1.cell? ⟨b1, (o1 + (x2).toNat * 1), none⟩ = some (.int .i64 x3) ∧
 (x3 = x1 →
 Q (.bool true) w1) ∧
 (x3 ≠ x1 →
 I1 (IntKind.i64.wrap (x2 + 1)) w1 ∧ μ1 (IntKind.i64.wrap (x2 + 1)) w1 < μ1 x2 w1)) ∧
 (¬ x2 < (n1 : Int) →
 Q (.bool false) w1)
theorem L_27 (A1 : Option Addr) (n1 c1 : Nat) (x1 : Int) (w : World) (Q : Value → World → Prop) (h : S_27 A1 n1 c1 x1 w Q) : Ret Tryz.prog 27 #[.slice A1 n1 c1, .int .i64 x1] w Q := by
 unfold S_27 at h
 refine ret_of_wp Tryz.func27 rfl (wp_seq (qx (qbr (qz (wp_seq (wp_seq (qx (qbr (qz (wp_block ?_))))))))))
 obtain ⟨I1, μ1, hI1, hB1⟩ := h
 refine wp_loop_st (σ := Int) (fun s a => ∃ u1 : Nat → Value, a = ⟨#[.slice A1 n1 c1, .int .i64 x1, undef, undef, u1 4, .int .i64 s, u1 6, u1 7, u1 8, u1 9, u1 10, u1 11, u1 12, u1 13, u1 14, u1 15, u1 16, u1 17], []⟩) (fun s w => I1 s w) (fun s w => μ1 s w) (0) (qaa) hI1 ?_
 rintro x2 a w1 ⟨u1, rfl⟩ hI1
 have h := hB1 x2 w1 hI1
 refine wp_seq (wp_seq (qx (qbr (qz (wp_cond_split (t := (decide (x2 < (n1 : Int)))) (by kernel_rfl) (fun hb => ?_) (fun hb => ?_))))))
 ·replace h := h.1 (of_decide_eq_true hb)
  refine wp_skip (qz (wp_seq (wp_block (wp_seq (qx (qbt 2 ?_))))))
  obtain ⟨b1, o1, rfl, h⟩ := h
  obtain ⟨h1, h2, h⟩ := h
  refine qq (qan (k := .i64) (j := x2) (b := b1) (off := o1) (n := n1) (c := c1) rfl Tryz.underlying30 Tryz.sizeOf3 h1 h2 ?_)
  obtain ⟨x3, hx, h⟩ := h
  refine qq (qap (v := .int .i64 x3) rfl Tryz.isAgg3 hx ?_)
  refine qbr (qz (wp_cond_split (t := (x3 == x1)) (by kernel_rfl) (fun hb => ?_) (fun hb => ?_)))
  ·replace h := h.1 (eq_of_beq hb)
   refine wp_seq (qx (qbr (qz (wp_ret (block_ret (qs (qs (block_ret (qs ?_)))))))))
   exact qbh (v := .bool true) h
  ·replace h := h.2 (ne_of_beq_false hb)
   refine wp_skip (qu (qz (qx (qbr (qz ?_)))))
   exact ⟨((IntKind.i64.wrap (x2 + 1))), qaa, h.1, h.2⟩
 ·replace h := h.2 (of_decide_eq_false hb)
  refine wp_exit (qr (qr (block_exit_eq (qz (wp_seq (qx (qbr (qz (wp_ret ?_)))))))))
  exact qbh (v := .bool false) h
def S_28 (A1 : Option Addr) (n1 c1 : Nat) (x1 : Int) (w : World) (Q : Value → World → Prop) : Prop :=
 ∃ (I1 : Int → World → Prop) (μ1 : Int → World → Nat), I1 0 w ∧
 ∀ x2 w1, I1 x2 w1 →
 (x2 < (n1 : Int) →
 ∃ b1 o1, A1 = some ⟨b1, o1, none⟩ ∧ (0 : Int) ≤ x2 ∧ x2 < (n1 : Int) ∧
 ∃ x3, w1.cell? ⟨b1, (o1 + (x2).toNat * 2), none⟩ = some (.int .i64 x3) ∧
 (x3 = x1 →
 (0 : Int) ≤ x2 ∧ x2 < (n1 : Int) ∧
 ∃ A2 n2 c2, w1.cell? ⟨b1, ((o1 + (x2).toNat * 2) + 1), none⟩ = some (.slice A2 n2 c2) ∧
 Q (.tuple #[.slice A2 n2 c2, .bool true]) w1) ∧
 (x3 ≠ x1 →
 I1 (IntKind.i64.wrap (x2 + 1)) w1 ∧ μ1 (IntKind.i64.wrap (x2 + 1)) w1 < μ1 x2 w1)) ∧
 (¬ x2 < (n1 : Int) →
 Q (.tuple #[.slice none 0 0, .bool false]) w1)
theorem L_28 (A1 : Option Addr) (n1 c1 : Nat) (x1 : Int) (w : World) (Q : Value → World → Prop) (h : S_28 A1 n1 c1 x1 w Q) : Ret Tryz.prog 28 #[.slice A1 n1 c1, .int .i64 x1] w Q := by
 unfold S_28 at h
 refine ret_of_wp Tryz.func28 rfl (wp_seq (qx (qbr (qz (wp_seq (wp_seq (qx (qbr (qz (wp_block ?_))))))))))
 obtain ⟨I1, μ1, hI1, hB1⟩ := h
 refine wp_loop_st (σ := Int) (fun s a => ∃ u1 : Nat → Value, a = ⟨#[.slice A1 n1 c1, .int .i64 x1, undef, undef, u1 4, u1 5, .int .i64 s, u1 7, u1 8, u1 9, u1 10, u1 11, u1 12, u1 13, u1 14, u1 15, u1 16, u1 17, u1 18, u1 19, u1 20, u1 21, u1 22, u1 23, u1 24], []⟩) (fun s w => I1 s w) (fun s w => μ1 s w) (0) (qaa) hI1 ?_
 rintro x2 a w1 ⟨u1, rfl⟩ hI1
 have h := hB1 x2 w1 hI1
 refine wp_seq (wp_seq (qx (qbr (qz (wp_cond_split (t := (decide (x2 < (n1 : Int)))) (by kernel_rfl) (fun hb => ?_) (fun hb => ?_))))))
 ·replace h := h.1 (of_decide_eq_true hb)
  refine wp_skip (qz (wp_seq (wp_block (wp_seq (qx (qbt 2 ?_))))))
  obtain ⟨b1, o1, rfl, h⟩ := h
  obtain ⟨h1, h2, h⟩ := h
  refine qq (qan (k := .i64) (j := x2) (b := b1) (off := o1) (n := n1) (c := c1) rfl Tryz.underlying28 Tryz.sizeOf61 h1 h2 ?_)
  refine qbt 1 ?_
  obtain ⟨x3, hx, h⟩ := h
  refine qq (qap (v := .int .i64 x3) rfl Tryz.isAgg3 hx ?_)
  refine qbr (qz (wp_cond_split (t := (x3 == x1)) (by kernel_rfl) (fun hb => ?_) (fun hb => ?_)))
  ·replace h := h.1 (eq_of_beq hb)
   refine wp_seq (qx (qbt 2 ?_))
   obtain ⟨h1, h2, h⟩ := h
   refine qq (qan (k := .i64) (j := x2) (b := b1) (off := o1) (n := n1) (c := c1) rfl Tryz.underlying28 Tryz.sizeOf61 h1 h2 ?_)
   refine qbt 1 ?_
   obtain ⟨A2, n2, c2, hx, h⟩ := h
   refine qq (qap (v := .slice A2 n2 c2) rfl Tryz.isAgg59 hx ?_)
   refine qbr (qz (wp_ret (block_ret (qs (qs (block_ret (qs ?_)))))))
   exact qbh (v := .tuple #[.slice A2 n2 c2, .bool true]) h
  ·replace h := h.2 (ne_of_beq_false hb)
   refine wp_skip (qu (qz (qx (qbr (qz ?_)))))
   exact ⟨((IntKind.i64.wrap (x2 + 1))), qaa, h.1, h.2⟩
 ·replace h := h.2 (of_decide_eq_false hb)
  refine wp_exit (qr (qr (block_exit_eq (qz (wp_seq (qx (qbr (qz (wp_ret ?_)))))))))
  exact qbh (v := .tuple #[.slice none 0 0, .bool false]) h
def S_39 (x1 x2 : Int) (d1 : List Value) (w : World) (Q : Value → World → Prop) : Prop :=
 ∀ b1 w1, b1 = w.heap.size → w1 = w.alloc (.cells (([.int .i64 x1, .int .u32 x2] : List Value) ++ d1).toArray 46) →
 ∃ (x3 : Int) (x4 : Int) (d2 : List Value), d2.length = 32 ∧ w1.rangeAt b1 0 (([.int .i64 x3, .int .u32 x4] : List Value) ++ d2) ∧
 Ret Tryz.prog 17 #[.agg (([.int .i64 x3, .int .u32 x4] : List Value) ++ d2).toArray] w1 fun r1 w2 => ∃ q1, r1 = .bool q1 ∧
 Q (.bool (!q1)) w2
theorem L_39 (x1 x2 : Int) (d1 : List Value) (w : World) (Q : Value → World → Prop) (hp0 : d1.length = 32) (h : S_39 x1 x2 d1 w Q) : Ret Tryz.prog 39 #[.agg (([.int .i64 x1, .int .u32 x2] : List Value) ++ d1).toArray] w Q := by
 unfold S_39 at h
 refine ret_of_wp Tryz.func39 rfl (wp_seq (qx (qq (qaf (v := .agg (([.int .i64 x1, .int .u32 x2] : List Value) ++ d1).toArray) rfl ?_))))
 intro b1 w1 e1 e2; replace h := h b1 w1 e1 e2
 refine qbr (qz (wp_seq (qx ?_)))
 obtain ⟨x3, x4, d2, hl0, hx, h⟩ := h
 refine qq (qaq (cs := (([.int .i64 x3, .int .u32 x4] : List Value) ++ d2)) rfl Tryz.isAgg46 Tryz.sizeOf46 (by simp [hl0]) hx ?_)
 refine qq (qai (args := #[.agg (([.int .i64 x3, .int .u32 x4] : List Value) ++ d2).toArray]) rfl Tryz.call17 (Ret.mono h ?_))
 clear h; rintro r1 w2 ⟨q1, rfl, h⟩
 refine qbr (qz (wp_ret ?_))
 exact qbh (v := .bool (!q1)) h
def S_41 (A1 : Option Addr) (n1 c1 : Nat) (v1 : Value) (w : World) (Q : Value → World → Prop) : Prop :=
 Ret Tryz.prog 58 #[.slice A1 n1 c1, v1] w fun r1 w1 => ∃ x1, r1 = .int .i64 x1 ∧
 Q (.bool (decide (x1 ≥ 0))) w1
theorem L_41 (A1 : Option Addr) (n1 c1 : Nat) (v1 : Value) (w : World) (Q : Value → World → Prop) (h : S_41 A1 n1 c1 v1 w Q) : Ret Tryz.prog 41 #[.slice A1 n1 c1, v1] w Q := by
 unfold S_41 at h
 refine ret_of_wp Tryz.func41 rfl (wp_seq (qx (qbr (qz (wp_seq (qx (qbt 2 (qq (qai (args := #[.slice A1 n1 c1, v1]) rfl Tryz.call58 (Ret.mono h ?_))))))))))
 clear h; rintro r1 w1 ⟨x1, rfl, h⟩
 refine qbr (qz (wp_ret ?_))
 exact qbh (v := .bool (decide (x1 ≥ 0))) h
def S_42 (A1 : Option Addr) (n1 c1 : Nat) (v1 : Value) (w : World) (Q : Value → World → Prop) : Prop :=
 ∃ (I1 : Int → World → Prop) (μ1 : Int → World → Nat), I1 0 w ∧
 ∀ x1 w1, I1 x1 w1 →
 (x1 < (n1 : Int) →
 ∃ b1 o1, A1 = some ⟨b1, o1, none⟩ ∧ (0 : Int) ≤ x1 ∧ x1 < (n1 : Int) ∧
 ∃ x2 A2 n2 c2, w1.rangeAt b1 (o1 + (x1).toNat * 2) ([.int .i64 x2, .slice A2 n2 c2] : List Value) ∧
 ∃ f1 k1, FnIs Tryz.prog v1 f1 k1 ∧
 Ret Tryz.prog f1 (#[.agg #[.int .i64 x2, .slice A2 n2 c2]] ++ k1) w1 fun r1 w2 => ∃ q1, r1 = .bool q1 ∧
 (q1 = true →
 Q (.int .i64 x1) w2) ∧
 (q1 = false →
 I1 (IntKind.i64.wrap (x1 + 1)) w2 ∧ μ1 (IntKind.i64.wrap (x1 + 1)) w2 < μ1 x1 w1)) ∧
 (¬ x1 < (n1 : Int) →
 Q (.int .i64 (-1)) w1)
theorem L_42 (A1 : Option Addr) (n1 c1 : Nat) (v1 : Value) (w : World) (Q : Value → World → Prop) (h : S_42 A1 n1 c1 v1 w Q) : Ret Tryz.prog 42 #[.slice A1 n1 c1, v1] w Q := by
 unfold S_42 at h
 refine ret_of_wp Tryz.func42 rfl (wp_seq (qx (qbr (qz (wp_seq (wp_seq (qx (qbr (qz (wp_block ?_))))))))))
 obtain ⟨I1, μ1, hI1, hB1⟩ := h
 refine wp_loop_st (σ := Int) (fun s a => ∃ u1 : Nat → Value, a = ⟨#[.slice A1 n1 c1, v1, undef, undef, u1 4, u1 5, .slice A1 n1 c1, .int .i64 (n1 : Int), .int .i64 s, u1 9, u1 10, u1 11, u1 12, u1 13, u1 14, u1 15, u1 16, u1 17, u1 18], []⟩) (fun s w => I1 s w) (fun s w => μ1 s w) (0) (qaa) hI1 ?_
 rintro x1 a w1 ⟨u1, rfl⟩ hI1
 have h := hB1 x1 w1 hI1
 refine wp_seq (qx (qbr (qz (wp_seq (wp_cond_split (t := (decide (x1 < (n1 : Int)))) (by kernel_rfl) (fun hb => ?_) (fun hb => ?_))))))
 ·replace h := h.1 (of_decide_eq_true hb)
  refine wp_skip (qz (wp_seq (wp_block (wp_seq (qx (qbr (qz (wp_seq (qx (qbt 3 ?_))))))))))
  obtain ⟨b1, o1, rfl, h⟩ := h
  obtain ⟨h1, h2, h⟩ := h
  refine qq (qan (k := .i64) (j := x1) (b := b1) (off := o1) (n := n1) (c := c1) rfl Tryz.underlying45 Tryz.sizeOf67 h1 h2 ?_)
  obtain ⟨x2, A2, n2, c2, hx, h⟩ := h
  refine qq (qaq (cs := ([.int .i64 x2, .slice A2 n2 c2] : List Value)) rfl Tryz.isAgg67 Tryz.sizeOf67 (by simp []) hx ?_)
  obtain ⟨f1, k1, h1, h⟩ := h
  refine qq (qaj (args := #[.agg #[.int .i64 x2, .slice A2 n2 c2]]) rfl h1 (Ret.mono h ?_))
  clear h h1; rintro r1 w2 ⟨q1, rfl, h⟩
  refine qo (qz (wp_cond_split (t := q1) (by kernel_rfl) (fun hb => ?_) (fun hb => ?_)))
  ·replace h := h.1 (hb)
   refine wp_seq (qx (qbr (qz (wp_ret (block_ret (qs (qs (block_ret (qs ?_)))))))))
   exact qbh (v := .int .i64 x1) h
  ·replace h := h.2 (hb)
   refine wp_skip (qu (qz (qx (qbr (qz ?_)))))
   exact ⟨((IntKind.i64.wrap (x1 + 1))), qaa, h.1, h.2⟩
 ·replace h := h.2 (of_decide_eq_false hb)
  refine wp_exit (qr (qr (block_exit_eq (qz (wp_seq (qx (qbr (qz (wp_ret ?_)))))))))
  exact qbh (v := .int .i64 (-1)) h
def S_43 (x1 : Int) (A1 : Option Addr) (n1 c1 : Nat) (p1 : Option Addr) (w : World) (Q : Value → World → Prop) : Prop :=
 ∀ b1 w1, b1 = w.heap.size → w1 = w.alloc (.cells #[.int .i64 x1, .slice A1 n1 c1] 67) →
 ∃ x2, w1.cell? ⟨b1, 0, none⟩ = some (.int .i64 x2) ∧
 ∃ b2 o1, p1 = some ⟨b2, o1, none⟩ ∧
 ∃ x3, w1.cell? ⟨b2, o1, none⟩ = some (.int .i64 x3) ∧
 Q (.bool (x2 == x3)) w1
theorem L_43 (x1 : Int) (A1 : Option Addr) (n1 c1 : Nat) (p1 : Option Addr) (w : World) (Q : Value → World → Prop) (h : S_43 x1 A1 n1 c1 p1 w Q) : Ret Tryz.prog 43 #[.agg #[.int .i64 x1, .slice A1 n1 c1], .pointer p1] w Q := by
 unfold S_43 at h
 refine ret_of_wp Tryz.func43 rfl (wp_seq (qx (qq (qaf (v := .agg #[.int .i64 x1, .slice A1 n1 c1]) rfl ?_))))
 intro b1 w1 e1 e2; replace h := h b1 w1 e1 e2
 refine qbr (qz (wp_seq (qx (qbt 1 ?_))))
 obtain ⟨x2, hx, h⟩ := h
 refine qq (qap (v := .int .i64 x2) rfl Tryz.isAgg3 hx ?_)
 obtain ⟨b2, o1, rfl, h⟩ := h
 obtain ⟨x3, hx, h⟩ := h
 refine qq (qap (v := .int .i64 x3) rfl Tryz.isAgg3 hx ?_)
 refine qbr (qz (wp_ret ?_))
 exact qbh (v := .bool (x2 == x3)) h
def S_58 (A1 : Option Addr) (n1 c1 : Nat) (v1 : Value) (w : World) (Q : Value → World → Prop) : Prop :=
 ∃ (I1 : Int → World → Prop) (μ1 : Int → World → Nat), I1 0 w ∧
 ∀ x1 w1, I1 x1 w1 →
 (x1 < (n1 : Int) →
 ∃ b1 o1, A1 = some ⟨b1, o1, none⟩ ∧ (0 : Int) ≤ x1 ∧ x1 < (n1 : Int) ∧
 ∃ (x2 : Int) (x3 : Int) (d1 : List Value), d1.length = 32 ∧ w1.rangeAt b1 (o1 + (x1).toNat * 34) (([.int .i64 x2, .int .u32 x3] : List Value) ++ d1) ∧
 ∃ f1 k1, FnIs Tryz.prog v1 f1 k1 ∧
 Ret Tryz.prog f1 (#[.agg (([.int .i64 x2, .int .u32 x3] : List Value) ++ d1).toArray] ++ k1) w1 fun r1 w2 => ∃ q1, r1 = .bool q1 ∧
 (q1 = true →
 Q (.int .i64 x1) w2) ∧
 (q1 = false →
 I1 (IntKind.i64.wrap (x1 + 1)) w2 ∧ μ1 (IntKind.i64.wrap (x1 + 1)) w2 < μ1 x1 w1)) ∧
 (¬ x1 < (n1 : Int) →
 Q (.int .i64 (-1)) w1)
theorem L_58 (A1 : Option Addr) (n1 c1 : Nat) (v1 : Value) (w : World) (Q : Value → World → Prop) (h : S_58 A1 n1 c1 v1 w Q) : Ret Tryz.prog 58 #[.slice A1 n1 c1, v1] w Q := by
 unfold S_58 at h
 refine ret_of_wp Tryz.func58 rfl (wp_seq (qx (qbr (qz (wp_seq (wp_seq (qx (qbr (qz (wp_block ?_))))))))))
 obtain ⟨I1, μ1, hI1, hB1⟩ := h
 refine wp_loop_st (σ := Int) (fun s a => ∃ u1 : Nat → Value, a = ⟨#[.slice A1 n1 c1, v1, undef, undef, u1 4, u1 5, .slice A1 n1 c1, .int .i64 (n1 : Int), .int .i64 s, u1 9, u1 10, u1 11, u1 12, u1 13, u1 14, u1 15, u1 16, u1 17, u1 18], []⟩) (fun s w => I1 s w) (fun s w => μ1 s w) (0) (qaa) hI1 ?_
 rintro x1 a w1 ⟨u1, rfl⟩ hI1
 have h := hB1 x1 w1 hI1
 refine wp_seq (qx (qbr (qz (wp_seq (wp_cond_split (t := (decide (x1 < (n1 : Int)))) (by kernel_rfl) (fun hb => ?_) (fun hb => ?_))))))
 ·replace h := h.1 (of_decide_eq_true hb)
  refine wp_skip (qz (wp_seq (wp_block (wp_seq (qx (qbr (qz (wp_seq (qx (qbt 3 ?_))))))))))
  obtain ⟨b1, o1, rfl, h⟩ := h
  obtain ⟨h1, h2, h⟩ := h
  refine qq (qan (k := .i64) (j := x1) (b := b1) (off := o1) (n := n1) (c := c1) rfl Tryz.underlying65 Tryz.sizeOf46 h1 h2 ?_)
  obtain ⟨x2, x3, d1, hl0, hx, h⟩ := h
  refine qq (qaq (cs := (([.int .i64 x2, .int .u32 x3] : List Value) ++ d1)) rfl Tryz.isAgg46 Tryz.sizeOf46 (by simp [hl0]) hx ?_)
  obtain ⟨f1, k1, h1, h⟩ := h
  refine qq (qaj (args := #[.agg (([.int .i64 x2, .int .u32 x3] : List Value) ++ d1).toArray]) rfl h1 (Ret.mono h ?_))
  clear h h1; rintro r1 w2 ⟨q1, rfl, h⟩
  refine qo (qz (wp_cond_split (t := q1) (by kernel_rfl) (fun hb => ?_) (fun hb => ?_)))
  ·replace h := h.1 (hb)
   refine wp_seq (qx (qbr (qz (wp_ret (block_ret (qs (qs (block_ret (qs ?_)))))))))
   exact qbh (v := .int .i64 x1) h
  ·replace h := h.2 (hb)
   refine wp_skip (qu (qz (qx (qbr (qz ?_)))))
   exact ⟨((IntKind.i64.wrap (x1 + 1))), qaa, h.1, h.2⟩
 ·replace h := h.2 (of_decide_eq_false hb)
  refine wp_exit (qr (qr (block_exit_eq (qz (wp_seq (qx (qbr (qz (wp_ret ?_)))))))))
  exact qbh (v := .int .i64 (-1)) h
end Go.Proofs.YtpkfdhlkknanmaaGreat
