/-
 For each function: what it asks of the world that it is called in (S_n), and that this suffices (L_n). Written by a program of this proof (gen.py) off the function's own print.
-/
import Derived.Test.YtpkfdhlkknanmaaGreatDrx
import Derived.Test.YtpkfdhlkknanmaaGreatProg
set_option linter.all false
set_option maxRecDepth 4000
namespace Go.Proofs.YtpkfdhlkknanmaaGreat
open Go Go.RowKit Go.Proofs
def S_53 (A1 : Option Addr) (n1 c1 : Nat) (w : World) (Q : Value → World → Prop) : Prop :=
 ∀ b1 w1, b1 = w.heap.size → w1 = w.alloc (.cells (List.replicate 32 (.int .u8 0 : Value)).toArray 22) →
 Ret Tryz.prog 67 #[] w1 fun r1 w2 => ∃ A2 n2 c2 A3 n3 c3, r1 = .tuple #[.slice A2 n2 c2, .slice A3 n3 c3] ∧
 Ret Tryz.prog 68 #[.slice A1 n1 c1] w2 fun r2 w3 => ∃ A4 n4 c4, r2 = .slice A4 n4 c4 ∧
 ∃ (I1 : (Option Addr) → Nat → Nat → Int → World → Prop) (μ1 : (Option Addr) → Nat → Nat → Int → World → Nat), I1 A3 n3 c3 0 w3 ∧
 ∀ A5 n5 c5 x1 w4, I1 A5 n5 c5 x1 w4 →
 (x1 < (n4 : Int) →
 (0 : Int) ≤ x1 ∧ (x1 : Int) ≤ (IntKind.i64.wrap (x1 + 64)) ∧ ((IntKind.i64.wrap (x1 + 64)) : Int) ≤ (c4 : Int) ∧ ((c4 : Int) : Int) ≤ (c4 : Int) ∧
 ∀ A6, A6 = cutA A4 ((x1).toNat) c4 1 →
 Ret Tryz.prog 69 #[.slice A2 n2 c2, .slice A5 n5 c5, .slice A6 ((((IntKind.i64.wrap (x1 + 64))).toNat) - ((x1).toNat)) (c4 - ((x1).toNat))] w4 fun r3 w5 => ∃ A7 n6 c6, r3 = .slice A7 n6 c6 ∧
 I1 A7 n6 c6 (IntKind.i64.wrap (x1 + 64)) w5 ∧ μ1 A7 n6 c6 (IntKind.i64.wrap (x1 + 64)) w5 < μ1 A5 n5 c5 x1 w4) ∧
 (¬ x1 < (n4 : Int) →
 ∀ b2 w6, b2 = w4.heap.size → w6 = w4.alloc (.cells (List.replicate 32 (.int .u8 0 : Value)).toArray 22) →
 ∃ (I2 : Int → World → Prop) (μ2 : Int → World → Nat), I2 0 w6 ∧
 ∀ x2 w7, I2 x2 w7 →
 (x2 < 32 →
 ∃ b3 o1, A5 = some ⟨b3, o1, none⟩ ∧ (0 : Int) ≤ (IntKind.i64.wrap (x2.tdiv 4)) ∧ (IntKind.i64.wrap (x2.tdiv 4)) < (n5 : Int) ∧
 ∃ x3, w7.cell? ⟨b3, (o1 + ((IntKind.i64.wrap (x2.tdiv 4))).toNat * 1), none⟩ = some (.int .u32 x3) ∧
 0 ≤ (IntKind.i64.wrap (24 - (IntKind.i64.wrap (8 * (x2.tmod 4))))) ∧
 0 ≤ x2 ∧ x2 < 32 ∧
 (w7.cell? ⟨b2, (0 + (x2).toNat * 1), none⟩).isSome = true ∧ w7.frozen? ⟨b2, (0 + (x2).toNat * 1), none⟩ = false ∧
 ∀ w8, w8 = w7.setCell ⟨b2, (0 + (x2).toNat * 1), none⟩ (.int .u8 (IntKind.u8.wrap (iShr .u32 x3 (IntKind.i64.wrap (24 - (IntKind.i64.wrap (8 * (x2.tmod 4)))))))) →
 I2 (IntKind.i64.wrap (x2 + 1)) w8 ∧ μ2 (IntKind.i64.wrap (x2 + 1)) w8 < μ2 x2 w7) ∧
 (¬ x2 < 32 →
 ∃ (d1 : List Value), d1.length = 32 ∧ w7.rangeAt b2 0 d1 ∧
 d1.length = 32 ∧ One d1 ∧ w7.there b1 0 32 ∧
 ∀ w9, w9 = w7.setCells b1 0 d1 →
 ∃ (d2 : List Value), d2.length = 32 ∧ w9.rangeAt b1 0 d2 ∧ Q (.agg d2.toArray) w9))
theorem L_53 (A1 : Option Addr) (n1 c1 : Nat) (w : World) (Q : Value → World → Prop) (h : S_53 A1 n1 c1 w Q) : Ret Tryz.prog 53 #[.slice A1 n1 c1] w Q := by
 unfold S_53 at h
 refine ret_of_wp Tryz.func53 rfl (wp_seq (qx (qq (qac rfl Tryz.zeroValue22 ?_))))
 intro b1 w1 e1 e2; replace h := h b1 w1 e1 e2
 refine qo (qz (wp_seq (qx (qq (qai (args := #[]) rfl Tryz.call67 (Ret.mono h ?_))))))
 clear h; rintro r1 w2 ⟨A2, n2, c2, A3, n3, c3, rfl, h⟩
 refine qbr (qz (wp_seq (qx (qbt 1 (qq (qai (args := #[.slice A1 n1 c1]) rfl Tryz.call68 (Ret.mono h ?_)))))))
 clear h; rintro r2 w3 ⟨A4, n4, c4, rfl, h⟩
 refine qbr (qz (wp_seq (wp_seq (qx (qbr (qz (wp_block ?_)))))))
 obtain ⟨I1, μ1, hI1, hB1⟩ := h
 refine wp_loop_st (σ := (Option Addr) × Nat × Nat × Int) (fun s a => ∃ u1 : Nat → Value, a = ⟨#[.slice A1 n1 c1, undef, .pointer (some ⟨b1, 0, none⟩), .slice A2 n2 c2, .slice s.1 s.2.1 s.2.2.1, .slice A4 n4 c4, .int .i64 s.2.2.2, undef, undef, .tuple #[.slice A2 n2 c2, .slice A3 n3 c3], .tuple #[.slice A2 n2 c2, .slice A3 n3 c3], .slice A2 n2 c2, .slice A3 n3 c3, .slice A1 n1 c1, .slice A4 n4 c4, u1 15, u1 16, u1 17, u1 18, u1 19, u1 20, u1 21, u1 22, u1 23, u1 24, u1 25, u1 26, u1 27, u1 28, undef, undef, undef, undef, undef, undef, undef, undef, undef, undef, undef, undef, undef, undef, undef, undef, undef, undef], []⟩) (fun s w => I1 s.1 s.2.1 s.2.2.1 s.2.2.2 w) (fun s w => μ1 s.1 s.2.1 s.2.2.1 s.2.2.2 w) (A3, n3, c3, 0) (qaa) hI1 ?_
 rintro ⟨A5, n5, c5, x1⟩ a w4 ⟨u1, rfl⟩ hI1
 have h := hB1 A5 n5 c5 x1 w4 hI1
 refine wp_seq (wp_seq (qx (qbr (qz (wp_cond_split (t := (decide (x1 < (n4 : Int)))) (by kernel_rfl) (fun hb => ?_) (fun hb => ?_))))))
 ·replace h := h.1 (of_decide_eq_true hb)
  refine wp_skip (qz (wp_seq (wp_block (qx (qbt 6 ?_)))))
  obtain ⟨h1, h2, h3, h4, h⟩ := h
  refine qq (qba (A := A4) (n := n4) (c := c4) (lo := x1) (hi := (IntKind.i64.wrap (x1 + 64))) (mx := (c4 : Int)) rfl (.inr ⟨_, .i64, rfl, by kernel_rfl⟩) (.inr ⟨_, .i64, rfl, by kernel_rfl⟩) (.inl ⟨rfl, rfl⟩) (by simp) Tryz.underlying62 Tryz.sizeOf5 h1 h2 h3 h4 ?_)
  intro A6 e1; replace h := h A6 e1
  refine qq (qai (args := #[.slice A2 n2 c2, .slice A5 n5 c5, .slice A6 ((((IntKind.i64.wrap (x1 + 64))).toNat) - ((x1).toNat)) (c4 - ((x1).toNat))]) rfl Tryz.call69 (Ret.mono h ?_))
  clear h; rintro r3 w5 ⟨A7, n6, c6, rfl, h⟩
  refine qbr (qu (qz (qx (qbr (qz ?_)))))
  exact ⟨(A7, n6, c6, (IntKind.i64.wrap (x1 + 64))), qaa, h.1, h.2⟩
 ·replace h := h.2 (of_decide_eq_false hb)
  refine wp_exit (qr (qr (block_exit_eq (qz (wp_seq (qx (qq (qac rfl Tryz.zeroValue22 ?_))))))))
  intro b2 w6 e1 e2; replace h := h b2 w6 e1 e2
  refine qo (qz (wp_seq (wp_seq (qx (qbr (qz (wp_block ?_)))))))
  obtain ⟨I2, μ2, hI2, hB2⟩ := h
  refine wp_loop_st (σ := Int) (fun s a => ∃ u2 : Nat → Value, a = ⟨#[.slice A1 n1 c1, undef, .pointer (some ⟨b1, 0, none⟩), .slice A2 n2 c2, .slice A5 n5 c5, .slice A4 n4 c4, .int .i64 x1, .pointer (some ⟨b2, 0, none⟩), .int .i64 s, .tuple #[.slice A2 n2 c2, .slice A3 n3 c3], .tuple #[.slice A2 n2 c2, .slice A3 n3 c3], .slice A2 n2 c2, .slice A3 n3 c3, .slice A1 n1 c1, .slice A4 n4 c4, .int .i64 x1, .slice A4 n4 c4, .int .i64 (n4 : Int), .bool (decide (x1 < (n4 : Int))), u1 19, u1 20, u1 21, u1 22, u1 23, u1 24, u1 25, u1 26, u1 27, u1 28, u2 29, u2 30, u2 31, u2 32, u2 33, u2 34, u2 35, u2 36, u2 37, u2 38, u2 39, u2 40, u2 41, u2 42, u2 43, u2 44, u2 45, undef], []⟩) (fun s w => I2 s w) (fun s w => μ2 s w) (0) (qaa) hI2 ?_
  rintro x2 a w7 ⟨u2, rfl⟩ hI2
  have h := hB2 x2 w7 hI2
  refine wp_seq (wp_seq (qx (qbr (qz (wp_cond_split (t := (decide (x2 < 32))) (by kernel_rfl) (fun hb => ?_) (fun hb => ?_))))))
  ·replace h := h.1 (of_decide_eq_true hb)
   refine wp_skip (qz (wp_seq (wp_block (qx (qbt 4 ?_)))))
   obtain ⟨b3, o1, rfl, h⟩ := h
   obtain ⟨h1, h2, h⟩ := h
   refine qq (qan (k := .i64) (j := (IntKind.i64.wrap (x2.tdiv 4))) (b := b3) (off := o1) (n := n5) (c := c5) rfl Tryz.underlying132 Tryz.sizeOf23 h1 h2 ?_)
   obtain ⟨x3, hx, h⟩ := h
   refine qq (qap (v := .int .u32 x3) rfl Tryz.isAgg23 hx ?_)
   refine qbt 4 ?_
   obtain ⟨h1, h⟩ := h
   refine qq (qaz (k := .u32) (k2 := .i64) (x := x3) (y := (IntKind.i64.wrap (24 - (IntKind.i64.wrap (8 * (x2.tmod 4)))))) rfl h1 ?_)
   refine qbt 1 ?_
   obtain ⟨h1, h2, h⟩ := h
   refine qq (qao (k := .i64) (j := x2) (b := b2) (off := 0) rfl Tryz.underlying22 Tryz.sizeOf5 h1 h2 ?_)
   obtain ⟨hc, hf, h⟩ := h
   refine qq (qbc (v := .int .u8 (IntKind.u8.wrap (iShr .u32 x3 (IntKind.i64.wrap (24 - (IntKind.i64.wrap (8 * (x2.tmod 4)))))))) rfl Tryz.sizeOf5 rfl hc hf ?_)
   intro w8 e1; replace h := h w8 e1
   refine qo (qu (qz (qx (qbr (qz ?_)))))
   exact ⟨((IntKind.i64.wrap (x2 + 1))), qaa, h.1, h.2⟩
  ·replace h := h.2 (of_decide_eq_false hb)
   refine wp_exit (qr (qr (block_exit_eq (qz (wp_seq (qx ?_))))))
   obtain ⟨d1, hl0, hx, h⟩ := h
   refine qq (qaq (cs := d1) rfl Tryz.isAgg22 Tryz.sizeOf22 (by simp [hl0]) hx ?_)
   obtain ⟨hl, h1, hw, h⟩ := h
   refine qq (qbd (cs := d1) rfl Tryz.sizeOf22 hl h1 hw ?_)
   intro w9 e1; replace h := h w9 e1
   refine qo (qz (wp_ret ?_))
   obtain ⟨d2, hl0_0, hx0, h⟩ := h
   exact qbi (vs := [.agg d2.toArray]) (v := .agg d2.toArray) Tryz.results53 ⟨⟨b1, 0, by kernel_rfl, run_loadN Tryz.isAgg22 Tryz.sizeOf22 (by simp [hl0_0]) hx0⟩, trivial⟩ h
def S_67  (w : World) (Q : Value → World → Prop) : Prop :=
 Ret Tryz.prog 80 #[.int .i64 64] w fun r1 w1 => ∃ A1 n1 c1, r1 = .slice A1 n1 c1 ∧
 ∃ (I1 : (Option Addr) → Nat → Nat → Int → World → Prop) (μ1 : (Option Addr) → Nat → Nat → Int → World → Nat), I1 none 0 0 0 w1 ∧
 ∀ A2 n2 c2 x1 w2, I1 A2 n2 c2 x1 w2 →
 (x1 < 64 →
 ∃ b1 o1, A1 = some ⟨b1, o1, none⟩ ∧ (0 : Int) ≤ x1 ∧ x1 < (n1 : Int) ∧
 ∃ x2, w2.cell? ⟨b1, (o1 + (x1).toNat * 1), none⟩ = some (.int .u64 x2) ∧
 Ret Tryz.prog 81 #[.int .u64 x2] w2 fun r2 w3 => ∃ x3, r2 = .int .u32 x3 ∧
 ∀ b2 w4, b2 = w3.heap.size → w4 = w3.alloc (.cells #[.int .u32 x3] 23) →
 ∃ l1 l2 : List Value, (n2 + 1) * 4 ≤ 140737488355328 ∧ l1.length = n2 * 1 ∧ RdS w4 A2 l1 ∧ l2.length = 1 * 1 ∧ RdS w4 (some ⟨b2, 0, none⟩) l2 ∧ One l2 ∧ (n2 + 1 ≤ c2 → Room w4 A2 (n2 * 1) (1 * 1)) ∧
 ∀ A3 c3 w5, Appended w4 23 1 #[.int .u32 0] A2 n2 c2 1 l1 l2 A3 c3 w5 →
 I1 A3 (n2 + 1) c3 (IntKind.i64.wrap (x1 + 1)) w5 ∧ μ1 A3 (n2 + 1) c3 (IntKind.i64.wrap (x1 + 1)) w5 < μ1 A2 n2 c2 x1 w2) ∧
 (¬ x1 < 64 →
 ∃ (I2 : (Option Addr) → Nat → Nat → Int → World → Prop) (μ2 : (Option Addr) → Nat → Nat → Int → World → Nat), I2 none 0 0 0 w2 ∧
 ∀ A4 n3 c4 x4 w6, I2 A4 n3 c4 x4 w6 →
 (x4 < 8 →
 ∃ b3 o2, A1 = some ⟨b3, o2, none⟩ ∧ (0 : Int) ≤ x4 ∧ x4 < (n1 : Int) ∧
 ∃ x5, w6.cell? ⟨b3, (o2 + (x4).toNat * 1), none⟩ = some (.int .u64 x5) ∧
 Ret Tryz.prog 82 #[.int .u64 x5] w6 fun r3 w7 => ∃ x6, r3 = .int .u32 x6 ∧
 ∀ b4 w8, b4 = w7.heap.size → w8 = w7.alloc (.cells #[.int .u32 x6] 23) →
 ∃ l3 l4 : List Value, (n3 + 1) * 4 ≤ 140737488355328 ∧ l3.length = n3 * 1 ∧ RdS w8 A4 l3 ∧ l4.length = 1 * 1 ∧ RdS w8 (some ⟨b4, 0, none⟩) l4 ∧ One l4 ∧ (n3 + 1 ≤ c4 → Room w8 A4 (n3 * 1) (1 * 1)) ∧
 ∀ A5 c5 w9, Appended w8 23 1 #[.int .u32 0] A4 n3 c4 1 l3 l4 A5 c5 w9 →
 I2 A5 (n3 + 1) c5 (IntKind.i64.wrap (x4 + 1)) w9 ∧ μ2 A5 (n3 + 1) c5 (IntKind.i64.wrap (x4 + 1)) w9 < μ2 A4 n3 c4 x4 w6) ∧
 (¬ x4 < 8 →
 Q (.tuple #[.slice A2 n2 c2, .slice A4 n3 c4]) w6))
theorem L_67  (w : World) (Q : Value → World → Prop) (h : S_67  w Q) : Ret Tryz.prog 67 #[] w Q := by
 unfold S_67 at h
 refine ret_of_wp Tryz.func67 rfl (wp_seq (qx (qbr (qz (wp_seq (qx (qq (qai (args := #[.int .i64 64]) rfl Tryz.call80 (Ret.mono h ?_)))))))))
 clear h; rintro r1 w1 ⟨A1, n1, c1, rfl, h⟩
 refine qbr (qz (wp_seq (qx (qbr (qz (wp_seq (wp_seq (qx (qbr (qz (wp_block ?_)))))))))))
 obtain ⟨I1, μ1, hI1, hB1⟩ := h
 refine wp_loop_st (σ := (Option Addr) × Nat × Nat × Int) (fun s a => ∃ u1 : Nat → Value, a = ⟨#[.slice none 0 0, .slice none 0 0, .slice A1 n1 c1, .slice s.1 s.2.1 s.2.2.1, .slice none 0 0, .int .i64 s.2.2.2, undef, .slice A1 n1 c1, u1 8, u1 9, u1 10, u1 11, u1 12, u1 13, u1 14, u1 15, u1 16, u1 17, u1 18, u1 19, undef, undef, undef, undef, undef, undef, undef, undef, undef, undef, undef, undef, undef, undef], []⟩) (fun s w => I1 s.1 s.2.1 s.2.2.1 s.2.2.2 w) (fun s w => μ1 s.1 s.2.1 s.2.2.1 s.2.2.2 w) (none, 0, 0, 0) (qaa) hI1 ?_
 rintro ⟨A2, n2, c2, x1⟩ a w2 ⟨u1, rfl⟩ hI1
 have h := hB1 A2 n2 c2 x1 w2 hI1
 refine wp_seq (wp_seq (qx (qbr (qz (wp_cond_split (t := (decide (x1 < 64))) (by kernel_rfl) (fun hb => ?_) (fun hb => ?_))))))
 ·replace h := h.1 (of_decide_eq_true hb)
  refine wp_skip (qz (wp_seq (wp_block (qx (qbt 3 ?_)))))
  obtain ⟨b1, o1, rfl, h⟩ := h
  obtain ⟨h1, h2, h⟩ := h
  refine qq (qan (k := .i64) (j := x1) (b := b1) (off := o1) (n := n1) (c := c1) rfl Tryz.underlying145 Tryz.sizeOf127 h1 h2 ?_)
  obtain ⟨x2, hx, h⟩ := h
  refine qq (qap (v := .int .u64 x2) rfl Tryz.isAgg127 hx ?_)
  refine qq (qai (args := #[.int .u64 x2]) rfl Tryz.call81 (Ret.mono h ?_))
  clear h; rintro r2 w3 ⟨x3, rfl, h⟩
  refine qq (qag (cs := ([.int .u32 x3] : List Value)) rfl Tryz.underlying132 Tryz.sizeOf23 Tryz.zeroValue23 (by kernel_rfl) (by decide) (by decide) ?_)
  intro b2 w4 e1 e2; replace h := h b2 w4 e1 e2
  obtain ⟨l1, l2, h1, h2, h3, h4, h5, h6, h7, h⟩ := h
  refine qq (qad (A := A2) (n := n2) (c := c2) (B := (some ⟨b2, 0, none⟩)) (m := 1) (c2 := 1) (olds := l1) (news := l2) rfl Tryz.underlying132 Tryz.underlying132 Tryz.typeInfo23 rfl (by decide) h1 h2 h3 h4 h5 h6 h7 ?_)
  intro A3 c3 w5 e1; replace h := h A3 c3 w5 e1
  refine qbr (qu (qz (qx (qbr (qz ?_)))))
  exact ⟨(A3, (n2 + 1), c3, (IntKind.i64.wrap (x1 + 1))), qaa, h.1, h.2⟩
 ·replace h := h.2 (of_decide_eq_false hb)
  refine wp_exit (qr (qr (block_exit_eq (qz (wp_seq (wp_seq (qx (qbr (qz (wp_block ?_))))))))))
  obtain ⟨I2, μ2, hI2, hB2⟩ := h
  refine wp_loop_st (σ := (Option Addr) × Nat × Nat × Int) (fun s a => ∃ u2 : Nat → Value, a = ⟨#[.slice none 0 0, .slice none 0 0, .slice A1 n1 c1, .slice A2 n2 c2, .slice s.1 s.2.1 s.2.2.1, .int .i64 x1, .int .i64 s.2.2.2, .slice A1 n1 c1, .int .i64 x1, .bool (decide (x1 < 64)), u1 10, u1 11, u1 12, u1 13, u1 14, u1 15, u1 16, u1 17, u1 18, u1 19, u2 20, u2 21, u2 22, u2 23, u2 24, u2 25, u2 26, u2 27, u2 28, u2 29, u2 30, u2 31, undef, undef], []⟩) (fun s w => I2 s.1 s.2.1 s.2.2.1 s.2.2.2 w) (fun s w => μ2 s.1 s.2.1 s.2.2.1 s.2.2.2 w) (none, 0, 0, 0) (qaa) hI2 ?_
  rintro ⟨A4, n3, c4, x4⟩ a w6 ⟨u2, rfl⟩ hI2
  have h := hB2 A4 n3 c4 x4 w6 hI2
  refine wp_seq (wp_seq (qx (qbr (qz (wp_cond_split (t := (decide (x4 < 8))) (by kernel_rfl) (fun hb => ?_) (fun hb => ?_))))))
  ·replace h := h.1 (of_decide_eq_true hb)
   refine wp_skip (qz (wp_seq (wp_block (qx (qbt 3 ?_)))))
   obtain ⟨b3, o2, rfl, h⟩ := h
   obtain ⟨h1, h2, h⟩ := h
   refine qq (qan (k := .i64) (j := x4) (b := b3) (off := o2) (n := n1) (c := c1) rfl Tryz.underlying145 Tryz.sizeOf127 h1 h2 ?_)
   obtain ⟨x5, hx, h⟩ := h
   refine qq (qap (v := .int .u64 x5) rfl Tryz.isAgg127 hx ?_)
   refine qq (qai (args := #[.int .u64 x5]) rfl Tryz.call82 (Ret.mono h ?_))
   clear h; rintro r3 w7 ⟨x6, rfl, h⟩
   refine qq (qag (cs := ([.int .u32 x6] : List Value)) rfl Tryz.underlying132 Tryz.sizeOf23 Tryz.zeroValue23 (by kernel_rfl) (by decide) (by decide) ?_)
   intro b4 w8 e1 e2; replace h := h b4 w8 e1 e2
   obtain ⟨l3, l4, h1, h2, h3, h4, h5, h6, h7, h⟩ := h
   refine qq (qad (A := A4) (n := n3) (c := c4) (B := (some ⟨b4, 0, none⟩)) (m := 1) (c2 := 1) (olds := l3) (news := l4) rfl Tryz.underlying132 Tryz.underlying132 Tryz.typeInfo23 rfl (by decide) h1 h2 h3 h4 h5 h6 h7 ?_)
   intro A5 c5 w9 e1; replace h := h A5 c5 w9 e1
   refine qbr (qu (qz (qx (qbr (qz ?_)))))
   exact ⟨(A5, (n3 + 1), c5, (IntKind.i64.wrap (x4 + 1))), qaa, h.1, h.2⟩
  ·replace h := h.2 (of_decide_eq_false hb)
   refine wp_exit (qr (qr (block_exit_eq (qz (wp_seq (qx (qbr (qz (wp_ret ?_)))))))))
   exact qbh (v := .tuple #[.slice A2 n2 c2, .slice A4 n3 c4]) h
def S_68 (A1 : Option Addr) (n1 c1 : Nat) (w : World) (Q : Value → World → Prop) : Prop :=
 ∃ l1 l2 : List Value, (0 + n1) * 1 ≤ 140737488355328 ∧ l1.length = 0 * 1 ∧ RdS w none l1 ∧ l2.length = n1 * 1 ∧ RdS w A1 l2 ∧ One l2 ∧ (0 + n1 ≤ 0 → Room w none (0 * 1) (n1 * 1)) ∧
 ∀ A2 c2 w1, Appended w 5 1 #[.int .u8 0] none 0 0 n1 l1 l2 A2 c2 w1 →
 ∀ b1 w2, b1 = w1.heap.size → w2 = w1.alloc (.cells #[.int .u8 128] 5) →
 ∃ l3 l4 : List Value, ((0 + n1) + 1) * 1 ≤ 140737488355328 ∧ l3.length = (0 + n1) * 1 ∧ RdS w2 A2 l3 ∧ l4.length = 1 * 1 ∧ RdS w2 (some ⟨b1, 0, none⟩) l4 ∧ One l4 ∧ ((0 + n1) + 1 ≤ c2 → Room w2 A2 ((0 + n1) * 1) (1 * 1)) ∧
 ∀ A3 c3 w3, Appended w2 5 1 #[.int .u8 0] A2 (0 + n1) c2 1 l3 l4 A3 c3 w3 →
 ∃ (I1 : (Option Addr) → Nat → Nat → World → Prop) (μ1 : (Option Addr) → Nat → Nat → World → Nat), I1 A3 ((0 + n1) + 1) c3 w3 ∧
 ∀ A4 n2 c4 w4, I1 A4 n2 c4 w4 →
 (((n2 : Int).tmod 64) ≠ 56 →
 ∀ b2 w5, b2 = w4.heap.size → w5 = w4.alloc (.cells #[.int .u8 0] 5) →
 ∃ l5 l6 : List Value, (n2 + 1) * 1 ≤ 140737488355328 ∧ l5.length = n2 * 1 ∧ RdS w5 A4 l5 ∧ l6.length = 1 * 1 ∧ RdS w5 (some ⟨b2, 0, none⟩) l6 ∧ One l6 ∧ (n2 + 1 ≤ c4 → Room w5 A4 (n2 * 1) (1 * 1)) ∧
 ∀ A5 c5 w6, Appended w5 5 1 #[.int .u8 0] A4 n2 c4 1 l5 l6 A5 c5 w6 →
 I1 A5 (n2 + 1) c5 w6 ∧ μ1 A5 (n2 + 1) c5 w6 < μ1 A4 n2 c4 w4) ∧
 (((n2 : Int).tmod 64) = 56 →
 ∃ (I2 : (Option Addr) → Nat → Nat → Int → World → Prop) (μ2 : (Option Addr) → Nat → Nat → Int → World → Nat), I2 A4 n2 c4 56 w4 ∧
 ∀ A6 n3 c6 x1 w7, I2 A6 n3 c6 x1 w7 →
 (x1 ≥ 0 →
 0 ≤ x1 ∧
 ∀ b3 w8, b3 = w7.heap.size → w8 = w7.alloc (.cells #[.int .u8 (IntKind.u8.wrap (iShr .u64 (IntKind.u64.wrap ((IntKind.u64.wrap (n1 : Int)) * 8)) x1))] 5) →
 ∃ l7 l8 : List Value, (n3 + 1) * 1 ≤ 140737488355328 ∧ l7.length = n3 * 1 ∧ RdS w8 A6 l7 ∧ l8.length = 1 * 1 ∧ RdS w8 (some ⟨b3, 0, none⟩) l8 ∧ One l8 ∧ (n3 + 1 ≤ c6 → Room w8 A6 (n3 * 1) (1 * 1)) ∧
 ∀ A7 c7 w9, Appended w8 5 1 #[.int .u8 0] A6 n3 c6 1 l7 l8 A7 c7 w9 →
 I2 A7 (n3 + 1) c7 (IntKind.i64.wrap (x1 - 8)) w9 ∧ μ2 A7 (n3 + 1) c7 (IntKind.i64.wrap (x1 - 8)) w9 < μ2 A6 n3 c6 x1 w7) ∧
 (¬ x1 ≥ 0 →
 Q (.slice A6 n3 c6) w7))
theorem L_68 (A1 : Option Addr) (n1 c1 : Nat) (w : World) (Q : Value → World → Prop) (h : S_68 A1 n1 c1 w Q) : Ret Tryz.prog 68 #[.slice A1 n1 c1] w Q := by
 unfold S_68 at h
 refine ret_of_wp Tryz.func68 rfl (wp_seq (qx (qbr (qz (wp_seq (qx (qbt 1 ?_)))))))
 obtain ⟨l1, l2, h1, h2, h3, h4, h5, h6, h7, h⟩ := h
 refine qq (qad (A := none) (n := 0) (c := 0) (B := A1) (m := n1) (c2 := c1) (olds := l1) (news := l2) rfl Tryz.underlying62 Tryz.underlying62 Tryz.typeInfo5 rfl (by decide) h1 h2 h3 h4 h5 h6 h7 ?_)
 intro A2 c2 w1 e1; replace h := h A2 c2 w1 e1
 refine qq (qag (cs := ([.int .u8 128] : List Value)) rfl Tryz.underlying62 Tryz.sizeOf5 Tryz.zeroValue5 (by kernel_rfl) (by decide) (by decide) ?_)
 intro b1 w2 e1 e2; replace h := h b1 w2 e1 e2
 obtain ⟨l3, l4, h1, h2, h3, h4, h5, h6, h7, h⟩ := h
 refine qq (qad (A := A2) (n := (0 + n1)) (c := c2) (B := (some ⟨b1, 0, none⟩)) (m := 1) (c2 := 1) (olds := l3) (news := l4) rfl Tryz.underlying62 Tryz.underlying62 Tryz.typeInfo5 rfl (by decide) h1 h2 h3 h4 h5 h6 h7 ?_)
 intro A3 c3 w3 e1; replace h := h A3 c3 w3 e1
 refine qbr (qz (wp_seq (wp_block ?_)))
 obtain ⟨I1, μ1, hI1, hB1⟩ := h
 refine wp_loop_st (σ := (Option Addr) × Nat × Nat) (fun s a => ∃ u1 : Nat → Value, a = ⟨#[.slice A1 n1 c1, undef, .slice none 0 0, .slice s.1 s.2.1 s.2.2, undef, undef, .slice A1 n1 c1, .slice A2 (0 + n1) c2, .slice (some ⟨b1, 0, none⟩) 1 1, .slice A3 ((0 + n1) + 1) c3, u1 10, u1 11, u1 12, u1 13, u1 14, u1 15, u1 16, undef, undef, undef, undef, undef, undef, undef, undef, undef, undef, undef, undef, undef, undef, undef, undef], []⟩) (fun s w => I1 s.1 s.2.1 s.2.2 w) (fun s w => μ1 s.1 s.2.1 s.2.2 w) (A3, ((0 + n1) + 1), c3) (qaa) hI1 ?_
 rintro ⟨A4, n2, c4⟩ a w4 ⟨u1, rfl⟩ hI1
 have h := hB1 A4 n2 c4 w4 hI1
 refine wp_seq (wp_seq (qx (qbr (qz (wp_cond_split (t := (((n2 : Int).tmod 64) != 56)) (by kernel_rfl) (fun hb => ?_) (fun hb => ?_))))))
 ·replace h := h.1 (bne_iff_ne.1 hb)
  refine wp_skip (qz (wp_block (qx (qbt 1 (qq (qag (cs := ([.int .u8 0] : List Value)) rfl Tryz.underlying62 Tryz.sizeOf5 Tryz.zeroValue5 (by kernel_rfl) (by decide) (by decide) ?_))))))
  intro b2 w5 e1 e2; replace h := h b2 w5 e1 e2
  obtain ⟨l5, l6, h1, h2, h3, h4, h5, h6, h7, h⟩ := h
  refine qq (qad (A := A4) (n := n2) (c := c4) (B := (some ⟨b2, 0, none⟩)) (m := 1) (c2 := 1) (olds := l5) (news := l6) rfl Tryz.underlying62 Tryz.underlying62 Tryz.typeInfo5 rfl (by decide) h1 h2 h3 h4 h5 h6 h7 ?_)
  intro A5 c5 w6 e1; replace h := h A5 c5 w6 e1
  refine qbr (qu (qz ?_))
  exact ⟨(A5, (n2 + 1), c5), qaa, h.1, h.2⟩
 ·replace h := h.2 (bne_false hb)
  refine wp_exit (qr (qr (block_exit_eq (qz (wp_seq (qx (qbr (qz (wp_seq (wp_seq (qx (qbr (qz (wp_block ?_))))))))))))))
  obtain ⟨I2, μ2, hI2, hB2⟩ := h
  refine wp_loop_st (σ := (Option Addr) × Nat × Nat × Int) (fun s a => ∃ u2 : Nat → Value, a = ⟨#[.slice A1 n1 c1, undef, .slice none 0 0, .slice s.1 s.2.1 s.2.2.1, .int .u64 (IntKind.u64.wrap ((IntKind.u64.wrap (n1 : Int)) * 8)), .int .i64 s.2.2.2, .slice A1 n1 c1, .slice A2 (0 + n1) c2, .slice (some ⟨b1, 0, none⟩) 1 1, .slice A3 ((0 + n1) + 1) c3, .slice A4 n2 c4, .int .i64 (n2 : Int), .int .i64 ((n2 : Int).tmod 64), .bool (((n2 : Int).tmod 64) != 56), u1 14, u1 15, u1 16, .slice A1 n1 c1, .int .i64 (n1 : Int), .int .u64 (IntKind.u64.wrap (n1 : Int)), .int .u64 (IntKind.u64.wrap ((IntKind.u64.wrap (n1 : Int)) * 8)), u2 21, u2 22, u2 23, u2 24, u2 25, u2 26, u2 27, u2 28, u2 29, u2 30, u2 31, undef], []⟩) (fun s w => I2 s.1 s.2.1 s.2.2.1 s.2.2.2 w) (fun s w => μ2 s.1 s.2.1 s.2.2.1 s.2.2.2 w) (A4, n2, c4, 56) (qaa) hI2 ?_
  rintro ⟨A6, n3, c6, x1⟩ a w7 ⟨u2, rfl⟩ hI2
  have h := hB2 A6 n3 c6 x1 w7 hI2
  refine wp_seq (wp_seq (qx (qbr (qz (wp_cond_split (t := (decide (x1 ≥ 0))) (by kernel_rfl) (fun hb => ?_) (fun hb => ?_))))))
  ·replace h := h.1 (of_decide_eq_true hb)
   refine wp_skip (qz (wp_seq (wp_block (qx (qbt 3 ?_)))))
   obtain ⟨h1, h⟩ := h
   refine qq (qaz (k := .u64) (k2 := .i64) (x := (IntKind.u64.wrap ((IntKind.u64.wrap (n1 : Int)) * 8))) (y := x1) rfl h1 ?_)
   refine qbt 1 (qq (qag (cs := ([.int .u8 (IntKind.u8.wrap (iShr .u64 (IntKind.u64.wrap ((IntKind.u64.wrap (n1 : Int)) * 8)) x1))] : List Value)) rfl Tryz.underlying62 Tryz.sizeOf5 Tryz.zeroValue5 (by kernel_rfl) (by decide) (by decide) ?_))
   intro b3 w8 e1 e2; replace h := h b3 w8 e1 e2
   obtain ⟨l7, l8, h1, h2, h3, h4, h5, h6, h7, h⟩ := h
   refine qq (qad (A := A6) (n := n3) (c := c6) (B := (some ⟨b3, 0, none⟩)) (m := 1) (c2 := 1) (olds := l7) (news := l8) rfl Tryz.underlying62 Tryz.underlying62 Tryz.typeInfo5 rfl (by decide) h1 h2 h3 h4 h5 h6 h7 ?_)
   intro A7 c7 w9 e1; replace h := h A7 c7 w9 e1
   refine qbr (qu (qz (qx (qbr (qz ?_)))))
   exact ⟨(A7, (n3 + 1), c7, (IntKind.i64.wrap (x1 - 8))), qaa, h.1, h.2⟩
  ·replace h := h.2 (of_decide_eq_false hb)
   refine wp_exit (qr (qr (block_exit_eq (qz (wp_seq (qx (qbr (qz (wp_ret ?_)))))))))
   exact qbh (v := .slice A6 n3 c6) h
def S_69 (A1 : Option Addr) (n1 c1 : Nat) (A2 : Option Addr) (n2 c2 : Nat) (A3 : Option Addr) (n3 c3 : Nat) (w : World) (Q : Value → World → Prop) : Prop :=
 ∃ (I1 : (Option Addr) → Nat → Nat → Int → World → Prop) (μ1 : (Option Addr) → Nat → Nat → Int → World → Nat), I1 none 0 0 0 w ∧
 ∀ A4 n4 c4 x1 w1, I1 A4 n4 c4 x1 w1 →
 (x1 < 64 →
 (x1 < 16 →
 ∀ w2, w2 = w1.drew →
 ∃ b1 o1, A3 = some ⟨b1, o1, none⟩ ∧ (0 : Int) ≤ (IntKind.i64.wrap (4 * x1)) ∧ (IntKind.i64.wrap (4 * x1)) < (n3 : Int) ∧
 ∃ x2, w1.cell? ⟨b1, (o1 + ((IntKind.i64.wrap (4 * x1))).toNat * 1), none⟩ = some (.int .u8 x2) ∧
 (0 : Int) ≤ (IntKind.i64.wrap ((IntKind.i64.wrap (4 * x1)) + 1)) ∧ (IntKind.i64.wrap ((IntKind.i64.wrap (4 * x1)) + 1)) < (n3 : Int) ∧
 ∃ x3, w1.cell? ⟨b1, (o1 + ((IntKind.i64.wrap ((IntKind.i64.wrap (4 * x1)) + 1))).toNat * 1), none⟩ = some (.int .u8 x3) ∧
 (0 : Int) ≤ (IntKind.i64.wrap ((IntKind.i64.wrap (4 * x1)) + 2)) ∧ (IntKind.i64.wrap ((IntKind.i64.wrap (4 * x1)) + 2)) < (n3 : Int) ∧
 ∃ x4, w1.cell? ⟨b1, (o1 + ((IntKind.i64.wrap ((IntKind.i64.wrap (4 * x1)) + 2))).toNat * 1), none⟩ = some (.int .u8 x4) ∧
 (0 : Int) ≤ (IntKind.i64.wrap ((IntKind.i64.wrap (4 * x1)) + 3)) ∧ (IntKind.i64.wrap ((IntKind.i64.wrap (4 * x1)) + 3)) < (n3 : Int) ∧
 ∃ x5, w1.cell? ⟨b1, (o1 + ((IntKind.i64.wrap ((IntKind.i64.wrap (4 * x1)) + 3))).toNat * 1), none⟩ = some (.int .u8 x5) ∧
 ∀ b2 w3, b2 = w2.heap.size → w3 = w2.alloc (.cells #[.int .u32 (IntKind.u32.wrap ((IntKind.u32.wrap ((IntKind.u32.wrap ((IntKind.u32.wrap ((IntKind.u32.wrap x2) * 16777216)) + (IntKind.u32.wrap ((IntKind.u32.wrap x3) * 65536)))) + (IntKind.u32.wrap ((IntKind.u32.wrap x4) * 256)))) + (IntKind.u32.wrap x5)))] 23) →
 ∃ l1 l2 : List Value, (n4 + 1) * 4 ≤ 140737488355328 ∧ l1.length = n4 * 1 ∧ RdS w3 A4 l1 ∧ l2.length = 1 * 1 ∧ RdS w3 (some ⟨b2, 0, none⟩) l2 ∧ One l2 ∧ (n4 + 1 ≤ c4 → Room w3 A4 (n4 * 1) (1 * 1)) ∧
 ∀ A5 c5 w4, Appended w3 23 1 #[.int .u32 0] A4 n4 c4 1 l1 l2 A5 c5 w4 →
 I1 A5 (n4 + 1) c5 (IntKind.i64.wrap (x1 + 1)) w4 ∧ μ1 A5 (n4 + 1) c5 (IntKind.i64.wrap (x1 + 1)) w4 < μ1 A4 n4 c4 x1 w1) ∧
 (¬ x1 < 16 →
 ∀ w5, w5 = w1.drew →
 ∃ b3 o2, A4 = some ⟨b3, o2, none⟩ ∧ (0 : Int) ≤ (IntKind.i64.wrap (x1 - 15)) ∧ (IntKind.i64.wrap (x1 - 15)) < (n4 : Int) ∧
 ∃ x6, w1.cell? ⟨b3, (o2 + ((IntKind.i64.wrap (x1 - 15))).toNat * 1), none⟩ = some (.int .u32 x6) ∧
 (0 : Int) ≤ (IntKind.i64.wrap (x1 - 2)) ∧ (IntKind.i64.wrap (x1 - 2)) < (n4 : Int) ∧
 ∃ x7, w1.cell? ⟨b3, (o2 + ((IntKind.i64.wrap (x1 - 2))).toNat * 1), none⟩ = some (.int .u32 x7) ∧
 Ret Tryz.prog 83 #[.int .u32 x6, .int .i64 7] w5 fun r1 w6 => ∃ x8, r1 = .int .u32 x8 ∧
 Ret Tryz.prog 83 #[.int .u32 x6, .int .i64 18] w6 fun r2 w7 => ∃ x9, r2 = .int .u32 x9 ∧
 Ret Tryz.prog 83 #[.int .u32 x7, .int .i64 17] w7 fun r3 w8 => ∃ x10, r3 = .int .u32 x10 ∧
 Ret Tryz.prog 83 #[.int .u32 x7, .int .i64 19] w8 fun r4 w9 => ∃ x11, r4 = .int .u32 x11 ∧
 ∀ w10, w10 = w9.drew →
 (0 : Int) ≤ (IntKind.i64.wrap (x1 - 7)) ∧ (IntKind.i64.wrap (x1 - 7)) < (n4 : Int) ∧
 ∃ x12, w9.cell? ⟨b3, (o2 + ((IntKind.i64.wrap (x1 - 7))).toNat * 1), none⟩ = some (.int .u32 x12) ∧
 (0 : Int) ≤ (IntKind.i64.wrap (x1 - 16)) ∧ (IntKind.i64.wrap (x1 - 16)) < (n4 : Int) ∧
 ∃ x13, w9.cell? ⟨b3, (o2 + ((IntKind.i64.wrap (x1 - 16))).toNat * 1), none⟩ = some (.int .u32 x13) ∧
 ∀ b4 w11, b4 = w10.heap.size → w11 = w10.alloc (.cells #[.int .u32 (IntKind.u32.wrap ((IntKind.u32.wrap ((IntKind.u32.wrap ((bXor .u32 (bXor .u32 x10 x11) (IntKind.u32.wrap (x7.tdiv 1024))) + x12)) + (bXor .u32 (bXor .u32 x8 x9) (IntKind.u32.wrap (x6.tdiv 8))))) + x13))] 23) →
 ∃ l3 l4 : List Value, (n4 + 1) * 4 ≤ 140737488355328 ∧ l3.length = n4 * 1 ∧ RdS w11 (some ⟨b3, o2, none⟩) l3 ∧ l4.length = 1 * 1 ∧ RdS w11 (some ⟨b4, 0, none⟩) l4 ∧ One l4 ∧ (n4 + 1 ≤ c4 → Room w11 (some ⟨b3, o2, none⟩) (n4 * 1) (1 * 1)) ∧
 ∀ A6 c6 w12, Appended w11 23 1 #[.int .u32 0] (some ⟨b3, o2, none⟩) n4 c4 1 l3 l4 A6 c6 w12 →
 I1 A6 (n4 + 1) c6 (IntKind.i64.wrap (x1 + 1)) w12 ∧ μ1 A6 (n4 + 1) c6 (IntKind.i64.wrap (x1 + 1)) w12 < μ1 A4 n4 c4 x1 w1)) ∧
 (¬ x1 < 64 →
 ∃ l5 l6 : List Value, (0 + n2) * 4 ≤ 140737488355328 ∧ l5.length = 0 * 1 ∧ RdS w1 none l5 ∧ l6.length = n2 * 1 ∧ RdS w1 A2 l6 ∧ One l6 ∧ (0 + n2 ≤ 0 → Room w1 none (0 * 1) (n2 * 1)) ∧
 ∀ A7 c7 w13, Appended w1 23 1 #[.int .u32 0] none 0 0 n2 l5 l6 A7 c7 w13 →
 ∃ (I2 : (Option Addr) → Nat → Nat → Int → World → Prop) (μ2 : (Option Addr) → Nat → Nat → Int → World → Nat), I2 A7 (0 + n2) c7 0 w13 ∧
 ∀ A8 n5 c8 x14 w14, I2 A8 n5 c8 x14 w14 →
 (x14 < 64 →
 ∀ w15, w15 = w14.drew →
 ∃ b5 o3, A8 = some ⟨b5, o3, none⟩ ∧ (0 : Int) ≤ 0 ∧ 0 < (n5 : Int) ∧
 ∃ x15, w14.cell? ⟨b5, (o3 + 0 * 1), none⟩ = some (.int .u32 x15) ∧
 (0 : Int) ≤ 4 ∧ 4 < (n5 : Int) ∧
 ∃ x16, w14.cell? ⟨b5, (o3 + 4 * 1), none⟩ = some (.int .u32 x16) ∧
 ∀ w16, w16 = w15.drew →
 (0 : Int) ≤ 7 ∧ 7 < (n5 : Int) ∧
 ∃ x17, w15.cell? ⟨b5, (o3 + 7 * 1), none⟩ = some (.int .u32 x17) ∧
 (0 : Int) ≤ 5 ∧ 5 < (n5 : Int) ∧
 ∃ x18, w15.cell? ⟨b5, (o3 + 5 * 1), none⟩ = some (.int .u32 x18) ∧
 (0 : Int) ≤ 6 ∧ 6 < (n5 : Int) ∧
 ∃ x19, w15.cell? ⟨b5, (o3 + 6 * 1), none⟩ = some (.int .u32 x19) ∧
 ∃ b6 o4, A1 = some ⟨b6, o4, none⟩ ∧ (0 : Int) ≤ x14 ∧ x14 < (n1 : Int) ∧
 ∃ x20, w15.cell? ⟨b6, (o4 + (x14).toNat * 1), none⟩ = some (.int .u32 x20) ∧
 ∃ b7 o5, A4 = some ⟨b7, o5, none⟩ ∧ (0 : Int) ≤ x14 ∧ x14 < (n4 : Int) ∧
 ∃ x21, w15.cell? ⟨b7, (o5 + (x14).toNat * 1), none⟩ = some (.int .u32 x21) ∧
 Ret Tryz.prog 83 #[.int .u32 x16, .int .i64 6] w16 fun r5 w17 => ∃ x22, r5 = .int .u32 x22 ∧
 Keep w15 w17 ∧
 Ret Tryz.prog 83 #[.int .u32 x16, .int .i64 11] w17 fun r6 w18 => ∃ x23, r6 = .int .u32 x23 ∧
 Keep w15 w18 ∧
 Ret Tryz.prog 83 #[.int .u32 x16, .int .i64 25] w18 fun r7 w19 => ∃ x24, r7 = .int .u32 x24 ∧
 Keep w15 w19 ∧
 ∀ w20, w20 = w19.drew →
 (0 : Int) ≤ 1 ∧ 1 < (n5 : Int) ∧
 ∃ x25, w19.cell? ⟨b5, (o3 + 1 * 1), none⟩ = some (.int .u32 x25) ∧
 (0 : Int) ≤ 2 ∧ 2 < (n5 : Int) ∧
 ∃ x26, w19.cell? ⟨b5, (o3 + 2 * 1), none⟩ = some (.int .u32 x26) ∧
 (0 : Int) ≤ 1 ∧ 1 < (n5 : Int) ∧
 ∃ x27, w19.cell? ⟨b5, (o3 + 1 * 1), none⟩ = some (.int .u32 x27) ∧
 (0 : Int) ≤ 2 ∧ 2 < (n5 : Int) ∧
 ∃ x28, w19.cell? ⟨b5, (o3 + 2 * 1), none⟩ = some (.int .u32 x28) ∧
 Ret Tryz.prog 83 #[.int .u32 x15, .int .i64 2] w20 fun r8 w21 => ∃ x29, r8 = .int .u32 x29 ∧
 Keep w19 w21 ∧
 Ret Tryz.prog 83 #[.int .u32 x15, .int .i64 13] w21 fun r9 w22 => ∃ x30, r9 = .int .u32 x30 ∧
 Keep w19 w22 ∧
 Ret Tryz.prog 83 #[.int .u32 x15, .int .i64 22] w22 fun r10 w23 => ∃ x31, r10 = .int .u32 x31 ∧
 Keep w19 w23 ∧
 ∀ w24, w24 = w23.drew →
 (0 : Int) ≤ 0 ∧ 0 < (n5 : Int) ∧
 ∃ x32, w23.cell? ⟨b5, (o3 + 0 * 1), none⟩ = some (.int .u32 x32) ∧
 (0 : Int) ≤ 1 ∧ 1 < (n5 : Int) ∧
 ∃ x33, w23.cell? ⟨b5, (o3 + 1 * 1), none⟩ = some (.int .u32 x33) ∧
 (0 : Int) ≤ 2 ∧ 2 < (n5 : Int) ∧
 ∃ x34, w23.cell? ⟨b5, (o3 + 2 * 1), none⟩ = some (.int .u32 x34) ∧
 (0 : Int) ≤ 3 ∧ 3 < (n5 : Int) ∧
 ∃ x35, w23.cell? ⟨b5, (o3 + 3 * 1), none⟩ = some (.int .u32 x35) ∧
 (0 : Int) ≤ 4 ∧ 4 < (n5 : Int) ∧
 ∃ x36, w23.cell? ⟨b5, (o3 + 4 * 1), none⟩ = some (.int .u32 x36) ∧
 (0 : Int) ≤ 5 ∧ 5 < (n5 : Int) ∧
 ∃ x37, w23.cell? ⟨b5, (o3 + 5 * 1), none⟩ = some (.int .u32 x37) ∧
 (0 : Int) ≤ 6 ∧ 6 < (n5 : Int) ∧
 ∃ x38, w23.cell? ⟨b5, (o3 + 6 * 1), none⟩ = some (.int .u32 x38) ∧
 ∀ b8 w25, b8 = w24.heap.size → w25 = w24.alloc (.cells #[.int .u32 (IntKind.u32.wrap ((IntKind.u32.wrap ((IntKind.u32.wrap ((IntKind.u32.wrap ((IntKind.u32.wrap (x17 + (bXor .u32 (bXor .u32 x22 x23) x24))) + (bXor .u32 (bAnd .u32 x16 x18) (bAnd .u32 (IntKind.u32.wrap (4294967295 - x16)) x19)))) + x20)) + x21)) + (IntKind.u32.wrap ((bXor .u32 (bXor .u32 x29 x30) x31) + (bXor .u32 (bXor .u32 (bAnd .u32 x15 x25) (bAnd .u32 x15 x26)) (bAnd .u32 x27 x28)))))), .int .u32 x32, .int .u32 x33, .int .u32 x34, .int .u32 (IntKind.u32.wrap (x35 + (IntKind.u32.wrap ((IntKind.u32.wrap ((IntKind.u32.wrap ((IntKind.u32.wrap (x17 + (bXor .u32 (bXor .u32 x22 x23) x24))) + (bXor .u32 (bAnd .u32 x16 x18) (bAnd .u32 (IntKind.u32.wrap (4294967295 - x16)) x19)))) + x20)) + x21)))), .int .u32 x36, .int .u32 x37, .int .u32 x38] 23) →
 I2 (some ⟨b8, 0, none⟩) 8 8 (IntKind.i64.wrap (x14 + 1)) w25 ∧ μ2 (some ⟨b8, 0, none⟩) 8 8 (IntKind.i64.wrap (x14 + 1)) w25 < μ2 A8 n5 c8 x14 w14) ∧
 (¬ x14 < 64 →
 ∃ (I3 : (Option Addr) → Nat → Nat → Int → World → Prop) (μ3 : (Option Addr) → Nat → Nat → Int → World → Nat), I3 none 0 0 0 w14 ∧
 ∀ A9 n6 c9 x39 w26, I3 A9 n6 c9 x39 w26 →
 (x39 < 8 →
 ∀ w27, w27 = w26.drew →
 ∃ b9 o6, A8 = some ⟨b9, o6, none⟩ ∧ (0 : Int) ≤ x39 ∧ x39 < (n5 : Int) ∧
 ∃ x40, w26.cell? ⟨b9, (o6 + (x39).toNat * 1), none⟩ = some (.int .u32 x40) ∧
 ∃ b10 o7, A2 = some ⟨b10, o7, none⟩ ∧ (0 : Int) ≤ x39 ∧ x39 < (n2 : Int) ∧
 ∃ x41, w26.cell? ⟨b10, (o7 + (x39).toNat * 1), none⟩ = some (.int .u32 x41) ∧
 ∀ b11 w28, b11 = w27.heap.size → w28 = w27.alloc (.cells #[.int .u32 (IntKind.u32.wrap (x40 + x41))] 23) →
 ∃ l7 l8 : List Value, (n6 + 1) * 4 ≤ 140737488355328 ∧ l7.length = n6 * 1 ∧ RdS w28 A9 l7 ∧ l8.length = 1 * 1 ∧ RdS w28 (some ⟨b11, 0, none⟩) l8 ∧ One l8 ∧ (n6 + 1 ≤ c9 → Room w28 A9 (n6 * 1) (1 * 1)) ∧
 ∀ A10 c10 w29, Appended w28 23 1 #[.int .u32 0] A9 n6 c9 1 l7 l8 A10 c10 w29 →
 I3 A10 (n6 + 1) c10 (IntKind.i64.wrap (x39 + 1)) w29 ∧ μ3 A10 (n6 + 1) c10 (IntKind.i64.wrap (x39 + 1)) w29 < μ3 A9 n6 c9 x39 w26) ∧
 (¬ x39 < 8 →
 Q (.slice A9 n6 c9) w26)))
theorem L_69 (A1 : Option Addr) (n1 c1 : Nat) (A2 : Option Addr) (n2 c2 : Nat) (A3 : Option Addr) (n3 c3 : Nat) (w : World) (Q : Value → World → Prop) (h : S_69 A1 n1 c1 A2 n2 c2 A3 n3 c3 w Q) : Ret Tryz.prog 69 #[.slice A1 n1 c1, .slice A2 n2 c2, .slice A3 n3 c3] w Q := by
 unfold S_69 at h
 refine ret_of_wp Tryz.func69 rfl (wp_seq (qx (qbr (qz (wp_seq (qx (qbr (qz (wp_seq (wp_seq (qx (qbr (qz (wp_block ?_))))))))))))))
 obtain ⟨I1, μ1, hI1, hB1⟩ := h
 refine wp_loop_st (σ := (Option Addr) × Nat × Nat × Int) (fun s a => ∃ u1 : Nat → Value, a = ⟨#[.slice A1 n1 c1, .slice A2 n2 c2, .slice A3 n3 c3, undef, undef, undef, .slice none 0 0, .slice s.1 s.2.1 s.2.2.1, .int .i64 s.2.2.2, u1 9, u1 10, u1 11, u1 12, undef, undef, undef, undef, undef, undef, undef, undef, u1 21, u1 22, u1 23, u1 24, u1 25, u1 26, u1 27, u1 28, u1 29, u1 30, u1 31, u1 32, u1 33, u1 34, u1 35, u1 36, u1 37, u1 38, u1 39, u1 40, u1 41, u1 42, u1 43, u1 44, u1 45, u1 46, u1 47, u1 48, u1 49, u1 50, u1 51, u1 52, u1 53, u1 54, u1 55, u1 56, u1 57, u1 58, u1 59, u1 60, u1 61, u1 62, u1 63, u1 64, u1 65, u1 66, u1 67, u1 68, u1 69, u1 70, u1 71, u1 72, u1 73, u1 74, u1 75, u1 76, u1 77, u1 78, u1 79, u1 80, u1 81, u1 82, u1 83, u1 84, u1 85, u1 86, u1 87, u1 88, u1 89, u1 90, u1 91, u1 92, u1 93, u1 94, u1 95, u1 96, u1 97, u1 98, u1 99, u1 100, u1 101, u1 102, u1 103, u1 104, u1 105, u1 106, undef, undef, undef, undef, undef, undef, undef, undef, undef, undef, undef, undef, undef, undef, undef, undef, undef, undef, undef, undef, undef, undef, undef, undef, undef, undef, undef, undef, undef, undef, undef, undef, undef, undef, undef, undef, undef, undef, undef, undef, undef, undef, undef, undef, undef, undef, undef, undef, undef, undef, undef, undef, undef, undef, undef, undef, undef, undef, undef, undef, undef, undef, undef, undef, undef, undef, undef, undef, undef, undef, undef, undef, undef, undef, undef, undef, undef, undef, undef, undef, undef, undef, undef, undef, undef, undef, undef, undef, undef, undef, undef, undef, undef, undef, undef, undef, undef, undef, undef, undef, undef, undef, undef, undef, undef, undef, undef, undef, undef, undef, undef, undef, undef, undef, undef, undef, undef, undef, undef], []⟩) (fun s w => I1 s.1 s.2.1 s.2.2.1 s.2.2.2 w) (fun s w => μ1 s.1 s.2.1 s.2.2.1 s.2.2.2 w) (none, 0, 0, 0) (qaa) hI1 ?_
 rintro ⟨A4, n4, c4, x1⟩ a w1 ⟨u1, rfl⟩ hI1
 have h := hB1 A4 n4 c4 x1 w1 hI1
 refine wp_seq (wp_seq (qx (qbr (qz (wp_cond_split (t := (decide (x1 < 64))) (by kernel_rfl) (fun hb => ?_) (fun hb => ?_))))))
 ·replace h := h.1 (of_decide_eq_true hb)
  refine wp_skip (qz (wp_seq (wp_block (wp_seq (wp_seq (qx (qbr (qz (wp_cond_split (t := (decide (x1 < 16))) (by kernel_rfl) (fun hb => ?_) (fun hb => ?_))))))))))
  ·replace h := h.1 (of_decide_eq_true hb)
   refine wp_seq (qbj (Keep w1) [34, 35] ?_)
   intro w2 e1; have hK1 := keep_drew e1; replace h := h w2 e1
   refine qbo 0 rfl (qbz (v := .slice A4 n4 c4)) (qbo 1 rfl (qbz (v := .slice A3 n3 c3)) (qbo 2 rfl (qbz (v := .int .i64 x1)) (qbo 3 rfl (qbz (v := .int .i64 (IntKind.i64.wrap (4 * x1)))) ?_)))
   obtain ⟨b1, o1, rfl, h⟩ := h
   obtain ⟨h1, h2, h⟩ := h
   refine qbo 4 rfl (qbu (k := .i64) (j := (IntKind.i64.wrap (4 * x1))) (b := b1) (off := o1) (n := n3) (c := c3) rfl Tryz.underlying62 Tryz.sizeOf5 h1 h2) ?_
   obtain ⟨x2, hx, h⟩ := h
   refine qbn 5 rfl (qbw (v := .int .u8 x2) rfl Tryz.isAgg5 (fun _ hk => keep_cell hk hx)) hK1 ?_
   refine qbo 6 rfl (qbz (v := .int .u32 (IntKind.u32.wrap x2))) (qbo 7 rfl (qbz (v := .int .u32 (IntKind.u32.wrap ((IntKind.u32.wrap x2) * 16777216)))) (qbo 8 rfl (qbz (v := .slice (some ⟨b1, o1, none⟩) n3 c3)) (qbo 9 rfl (qbz (v := .int .i64 x1)) (qbo 10 rfl (qbz (v := .int .i64 (IntKind.i64.wrap (4 * x1)))) (qbo 11 rfl (qbz (v := .int .i64 (IntKind.i64.wrap ((IntKind.i64.wrap (4 * x1)) + 1)))) ?_)))))
   obtain ⟨h1, h2, h⟩ := h
   refine qbo 12 rfl (qbu (k := .i64) (j := (IntKind.i64.wrap ((IntKind.i64.wrap (4 * x1)) + 1))) (b := b1) (off := o1) (n := n3) (c := c3) rfl Tryz.underlying62 Tryz.sizeOf5 h1 h2) ?_
   obtain ⟨x3, hx, h⟩ := h
   refine qbn 13 rfl (qbw (v := .int .u8 x3) rfl Tryz.isAgg5 (fun _ hk => keep_cell hk hx)) hK1 ?_
   refine qbo 14 rfl (qbz (v := .int .u32 (IntKind.u32.wrap x3))) (qbo 15 rfl (qbz (v := .int .u32 (IntKind.u32.wrap ((IntKind.u32.wrap x3) * 65536)))) (qbo 16 rfl (qbz (v := .int .u32 (IntKind.u32.wrap ((IntKind.u32.wrap ((IntKind.u32.wrap x2) * 16777216)) + (IntKind.u32.wrap ((IntKind.u32.wrap x3) * 65536)))))) (qbo 17 rfl (qbz (v := .slice (some ⟨b1, o1, none⟩) n3 c3)) (qbo 18 rfl (qbz (v := .int .i64 x1)) (qbo 19 rfl (qbz (v := .int .i64 (IntKind.i64.wrap (4 * x1)))) (qbo 20 rfl (qbz (v := .int .i64 (IntKind.i64.wrap ((IntKind.i64.wrap (4 * x1)) + 2)))) ?_))))))
   obtain ⟨h1, h2, h⟩ := h
   refine qbo 21 rfl (qbu (k := .i64) (j := (IntKind.i64.wrap ((IntKind.i64.wrap (4 * x1)) + 2))) (b := b1) (off := o1) (n := n3) (c := c3) rfl Tryz.underlying62 Tryz.sizeOf5 h1 h2) ?_
   obtain ⟨x4, hx, h⟩ := h
   refine qbn 22 rfl (qbw (v := .int .u8 x4) rfl Tryz.isAgg5 (fun _ hk => keep_cell hk hx)) hK1 ?_
   refine qbo 23 rfl (qbz (v := .int .u32 (IntKind.u32.wrap x4))) (qbo 24 rfl (qbz (v := .int .u32 (IntKind.u32.wrap ((IntKind.u32.wrap x4) * 256)))) (qbo 25 rfl (qbz (v := .int .u32 (IntKind.u32.wrap ((IntKind.u32.wrap ((IntKind.u32.wrap ((IntKind.u32.wrap x2) * 16777216)) + (IntKind.u32.wrap ((IntKind.u32.wrap x3) * 65536)))) + (IntKind.u32.wrap ((IntKind.u32.wrap x4) * 256)))))) (qbo 26 rfl (qbz (v := .slice (some ⟨b1, o1, none⟩) n3 c3)) (qbo 27 rfl (qbz (v := .int .i64 x1)) (qbo 28 rfl (qbz (v := .int .i64 (IntKind.i64.wrap (4 * x1)))) (qbo 29 rfl (qbz (v := .int .i64 (IntKind.i64.wrap ((IntKind.i64.wrap (4 * x1)) + 3)))) ?_))))))
   obtain ⟨h1, h2, h⟩ := h
   refine qbo 30 rfl (qbu (k := .i64) (j := (IntKind.i64.wrap ((IntKind.i64.wrap (4 * x1)) + 3))) (b := b1) (off := o1) (n := n3) (c := c3) rfl Tryz.underlying62 Tryz.sizeOf5 h1 h2) ?_
   obtain ⟨x5, hx, h⟩ := h
   refine qbn 31 rfl (qbw (v := .int .u8 x5) rfl Tryz.isAgg5 (fun _ hk => keep_cell hk hx)) hK1 ?_
   refine qbo 32 rfl (qbz (v := .int .u32 (IntKind.u32.wrap x5))) (qbo 33 rfl (qbz (v := .int .u32 (IntKind.u32.wrap ((IntKind.u32.wrap ((IntKind.u32.wrap ((IntKind.u32.wrap ((IntKind.u32.wrap x2) * 16777216)) + (IntKind.u32.wrap ((IntKind.u32.wrap x3) * 65536)))) + (IntKind.u32.wrap ((IntKind.u32.wrap x4) * 256)))) + (IntKind.u32.wrap x5))))) (qbm 34 rfl (qag (cs := ([.int .u32 (IntKind.u32.wrap ((IntKind.u32.wrap ((IntKind.u32.wrap ((IntKind.u32.wrap ((IntKind.u32.wrap x2) * 16777216)) + (IntKind.u32.wrap ((IntKind.u32.wrap x3) * 65536)))) + (IntKind.u32.wrap ((IntKind.u32.wrap x4) * 256)))) + (IntKind.u32.wrap x5)))] : List Value)) rfl Tryz.underlying132 Tryz.sizeOf23 Tryz.zeroValue23 (by kernel_rfl) (by decide) (by decide) ?_)))
   intro b2 w3 e1 e2; replace h := h b2 w3 e1 e2
   refine ⟨fun hh => absurd hh (by decide), ?_⟩
   obtain ⟨l1, l2, h1, h2, h3, h4, h5, h6, h7, h⟩ := h
   refine qbm 35 rfl (qad (A := A4) (n := n4) (c := c4) (B := (some ⟨b2, 0, none⟩)) (m := 1) (c2 := 1) (olds := l1) (news := l2) rfl Tryz.underlying132 Tryz.underlying132 Tryz.typeInfo23 rfl (by decide) h1 h2 h3 h4 h5 h6 h7 ?_)
   intro A5 c5 w4 e1; replace h := h A5 c5 w4 e1
   refine ⟨fun hh => absurd hh (by decide), ?_⟩
   refine qbo 36 rfl (qbz (v := .slice A5 (n4 + 1) c5)) (qbk (qz (wp_exit (qr (block_exit_eq (qz (qx (qbr (qz ?_)))))))))
   exact ⟨(A5, (n4 + 1), c5, (IntKind.i64.wrap (x1 + 1))), qaa, h.1, h.2⟩
  ·replace h := h.2 (of_decide_eq_false hb)
   refine wp_skip (qz (wp_seq (qbj (Keep w1) [] ?_)))
   intro w5 e1; have hK2 := keep_drew e1; replace h := h w5 e1
   refine qbo 0 rfl (qbz (v := .slice A4 n4 c4)) (qbo 1 rfl (qbz (v := .int .i64 x1)) (qbo 2 rfl (qbz (v := .int .i64 (IntKind.i64.wrap (x1 - 15)))) ?_))
   obtain ⟨b3, o2, rfl, h⟩ := h
   obtain ⟨h1, h2, h⟩ := h
   refine qbo 3 rfl (qbu (k := .i64) (j := (IntKind.i64.wrap (x1 - 15))) (b := b3) (off := o2) (n := n4) (c := c4) rfl Tryz.underlying132 Tryz.sizeOf23 h1 h2) ?_
   obtain ⟨x6, hx, h⟩ := h
   refine qbn 4 rfl (qbw (v := .int .u32 x6) rfl Tryz.isAgg23 (fun _ hk => keep_cell hk hx)) hK2 ?_
   refine qbo 5 rfl (qbz (v := .slice (some ⟨b3, o2, none⟩) n4 c4)) (qbo 6 rfl (qbz (v := .int .i64 x1)) (qbo 7 rfl (qbz (v := .int .i64 (IntKind.i64.wrap (x1 - 2)))) ?_))
   obtain ⟨h1, h2, h⟩ := h
   refine qbo 8 rfl (qbu (k := .i64) (j := (IntKind.i64.wrap (x1 - 2))) (b := b3) (off := o2) (n := n4) (c := c4) rfl Tryz.underlying132 Tryz.sizeOf23 h1 h2) ?_
   obtain ⟨x7, hx, h⟩ := h
   refine qbn 9 rfl (qbw (v := .int .u32 x7) rfl Tryz.isAgg23 (fun _ hk => keep_cell hk hx)) hK2 ?_
   refine qbo 10 rfl (qbz (v := .int .u32 x6)) (qbo 11 rfl (qbz (v := .int .u32 x7)) (qbk (qz (wp_seq (qx (qbt 1 (qq (qai (args := #[.int .u32 x6, .int .i64 7]) rfl Tryz.call83 (Ret.mono h ?_)))))))))
   clear h; rintro r1 w6 ⟨x8, rfl, h⟩
   refine qbt 1 (qq (qai (args := #[.int .u32 x6, .int .i64 18]) rfl Tryz.call83 (Ret.mono h ?_)))
   clear h; rintro r2 w7 ⟨x9, rfl, h⟩
   refine qbr (qz (wp_seq (qx (qbt 1 (qq (qai (args := #[.int .u32 x7, .int .i64 17]) rfl Tryz.call83 (Ret.mono h ?_)))))))
   clear h; rintro r3 w8 ⟨x10, rfl, h⟩
   refine qbt 1 (qq (qai (args := #[.int .u32 x7, .int .i64 19]) rfl Tryz.call83 (Ret.mono h ?_)))
   clear h; rintro r4 w9 ⟨x11, rfl, h⟩
   refine qbr (qz (qbj (Keep w9) [16, 17] ?_))
   intro w10 e1; have hK3 := keep_drew e1; replace h := h w10 e1
   refine qbo 0 rfl (qbz (v := .slice (some ⟨b3, o2, none⟩) n4 c4)) (qbo 1 rfl (qbz (v := .int .u32 (bXor .u32 (bXor .u32 x10 x11) (IntKind.u32.wrap (x7.tdiv 1024))))) (qbo 2 rfl (qbz (v := .slice (some ⟨b3, o2, none⟩) n4 c4)) (qbo 3 rfl (qbz (v := .int .i64 x1)) (qbo 4 rfl (qbz (v := .int .i64 (IntKind.i64.wrap (x1 - 7)))) ?_))))
   obtain ⟨h1, h2, h⟩ := h
   refine qbo 5 rfl (qbu (k := .i64) (j := (IntKind.i64.wrap (x1 - 7))) (b := b3) (off := o2) (n := n4) (c := c4) rfl Tryz.underlying132 Tryz.sizeOf23 h1 h2) ?_
   obtain ⟨x12, hx, h⟩ := h
   refine qbn 6 rfl (qbw (v := .int .u32 x12) rfl Tryz.isAgg23 (fun _ hk => keep_cell hk hx)) hK3 ?_
   refine qbo 7 rfl (qbz (v := .int .u32 (IntKind.u32.wrap ((bXor .u32 (bXor .u32 x10 x11) (IntKind.u32.wrap (x7.tdiv 1024))) + x12)))) (qbo 8 rfl (qbz (v := .int .u32 (bXor .u32 (bXor .u32 x8 x9) (IntKind.u32.wrap (x6.tdiv 8))))) (qbo 9 rfl (qbz (v := .int .u32 (IntKind.u32.wrap ((IntKind.u32.wrap ((bXor .u32 (bXor .u32 x10 x11) (IntKind.u32.wrap (x7.tdiv 1024))) + x12)) + (bXor .u32 (bXor .u32 x8 x9) (IntKind.u32.wrap (x6.tdiv 8))))))) (qbo 10 rfl (qbz (v := .slice (some ⟨b3, o2, none⟩) n4 c4)) (qbo 11 rfl (qbz (v := .int .i64 x1)) (qbo 12 rfl (qbz (v := .int .i64 (IntKind.i64.wrap (x1 - 16)))) ?_)))))
   obtain ⟨h1, h2, h⟩ := h
   refine qbo 13 rfl (qbu (k := .i64) (j := (IntKind.i64.wrap (x1 - 16))) (b := b3) (off := o2) (n := n4) (c := c4) rfl Tryz.underlying132 Tryz.sizeOf23 h1 h2) ?_
   obtain ⟨x13, hx, h⟩ := h
   refine qbn 14 rfl (qbw (v := .int .u32 x13) rfl Tryz.isAgg23 (fun _ hk => keep_cell hk hx)) hK3 ?_
   refine qbo 15 rfl (qbz (v := .int .u32 (IntKind.u32.wrap ((IntKind.u32.wrap ((IntKind.u32.wrap ((bXor .u32 (bXor .u32 x10 x11) (IntKind.u32.wrap (x7.tdiv 1024))) + x12)) + (bXor .u32 (bXor .u32 x8 x9) (IntKind.u32.wrap (x6.tdiv 8))))) + x13)))) (qbm 16 rfl (qag (cs := ([.int .u32 (IntKind.u32.wrap ((IntKind.u32.wrap ((IntKind.u32.wrap ((bXor .u32 (bXor .u32 x10 x11) (IntKind.u32.wrap (x7.tdiv 1024))) + x12)) + (bXor .u32 (bXor .u32 x8 x9) (IntKind.u32.wrap (x6.tdiv 8))))) + x13))] : List Value)) rfl Tryz.underlying132 Tryz.sizeOf23 Tryz.zeroValue23 (by kernel_rfl) (by decide) (by decide) ?_))
   intro b4 w11 e1 e2; replace h := h b4 w11 e1 e2
   refine ⟨fun hh => absurd hh (by decide), ?_⟩
   obtain ⟨l3, l4, h1, h2, h3, h4, h5, h6, h7, h⟩ := h
   refine qbm 17 rfl (qad (A := (some ⟨b3, o2, none⟩)) (n := n4) (c := c4) (B := (some ⟨b4, 0, none⟩)) (m := 1) (c2 := 1) (olds := l3) (news := l4) rfl Tryz.underlying132 Tryz.underlying132 Tryz.typeInfo23 rfl (by decide) h1 h2 h3 h4 h5 h6 h7 ?_)
   intro A6 c6 w12 e1; replace h := h A6 c6 w12 e1
   refine ⟨fun hh => absurd hh (by decide), ?_⟩
   refine qbo 18 rfl (qbz (v := .slice A6 (n4 + 1) c6)) (qbk (qu (qz (qx (qbr (qz ?_))))))
   exact ⟨(A6, (n4 + 1), c6, (IntKind.i64.wrap (x1 + 1))), qaa, h.1, h.2⟩
 ·replace h := h.2 (of_decide_eq_false hb)
  refine wp_exit (qr (qr (block_exit_eq (qz (wp_seq (qx (qbt 1 ?_)))))))
  obtain ⟨l5, l6, h1, h2, h3, h4, h5, h6, h7, h⟩ := h
  refine qq (qad (A := none) (n := 0) (c := 0) (B := A2) (m := n2) (c2 := c2) (olds := l5) (news := l6) rfl Tryz.underlying132 Tryz.underlying132 Tryz.typeInfo23 rfl (by decide) h1 h2 h3 h4 h5 h6 h7 ?_)
  intro A7 c7 w13 e1; replace h := h A7 c7 w13 e1
  refine qbr (qz (wp_seq (wp_seq (qx (qbr (qz (wp_block ?_)))))))
  obtain ⟨I2, μ2, hI2, hB2⟩ := h
  refine wp_loop_st (σ := (Option Addr) × Nat × Nat × Int) (fun s a => ∃ u2 : Nat → Value, a = ⟨#[.slice A1 n1 c1, .slice A2 n2 c2, .slice A3 n3 c3, undef, undef, undef, .slice none 0 0, .slice A4 n4 c4, .int .i64 x1, u1 9, u1 10, u1 11, u1 12, .slice s.1 s.2.1 s.2.2.1, .int .i64 s.2.2.2, u2 15, u2 16, u2 17, u2 18, undef, undef, .int .i64 x1, .bool (decide (x1 < 64)), u1 23, u1 24, u1 25, u1 26, u1 27, u1 28, u1 29, u1 30, u1 31, u1 32, u1 33, u1 34, u1 35, u1 36, u1 37, u1 38, u1 39, u1 40, u1 41, u1 42, u1 43, u1 44, u1 45, u1 46, u1 47, u1 48, u1 49, u1 50, u1 51, u1 52, u1 53, u1 54, u1 55, u1 56, u1 57, u1 58, u1 59, u1 60, u1 61, u1 62, u1 63, u1 64, u1 65, u1 66, u1 67, u1 68, u1 69, u1 70, u1 71, u1 72, u1 73, u1 74, u1 75, u1 76, u1 77, u1 78, u1 79, u1 80, u1 81, u1 82, u1 83, u1 84, u1 85, u1 86, u1 87, u1 88, u1 89, u1 90, u1 91, u1 92, u1 93, u1 94, u1 95, u1 96, u1 97, u1 98, u1 99, u1 100, u1 101, u1 102, u1 103, u1 104, u1 105, u1 106, .slice A2 n2 c2, .slice A7 (0 + n2) c7, u2 109, u2 110, u2 111, u2 112, u2 113, u2 114, u2 115, u2 116, u2 117, u2 118, u2 119, u2 120, u2 121, u2 122, u2 123, u2 124, u2 125, u2 126, u2 127, u2 128, u2 129, u2 130, u2 131, u2 132, u2 133, u2 134, u2 135, u2 136, u2 137, u2 138, u2 139, u2 140, u2 141, u2 142, u2 143, u2 144, u2 145, u2 146, u2 147, u2 148, u2 149, u2 150, u2 151, u2 152, u2 153, u2 154, u2 155, u2 156, u2 157, u2 158, u2 159, u2 160, u2 161, u2 162, u2 163, u2 164, u2 165, u2 166, u2 167, u2 168, u2 169, u2 170, u2 171, u2 172, u2 173, u2 174, u2 175, u2 176, u2 177, u2 178, u2 179, u2 180, u2 181, u2 182, u2 183, u2 184, u2 185, u2 186, u2 187, u2 188, u2 189, u2 190, u2 191, u2 192, u2 193, u2 194, u2 195, u2 196, u2 197, u2 198, u2 199, u2 200, u2 201, u2 202, u2 203, u2 204, u2 205, u2 206, u2 207, u2 208, undef, undef, undef, undef, undef, undef, undef, undef, undef, undef, undef, undef, undef, undef, undef, undef, undef], []⟩) (fun s w => I2 s.1 s.2.1 s.2.2.1 s.2.2.2 w) (fun s w => μ2 s.1 s.2.1 s.2.2.1 s.2.2.2 w) (A7, (0 + n2), c7, 0) (qaa) hI2 ?_
  rintro ⟨A8, n5, c8, x14⟩ a w14 ⟨u2, rfl⟩ hI2
  have h := hB2 A8 n5 c8 x14 w14 hI2
  refine wp_seq (wp_seq (qx (qbr (qz (wp_cond_split (t := (decide (x14 < 64))) (by kernel_rfl) (fun hb => ?_) (fun hb => ?_))))))
  ·replace h := h.1 (of_decide_eq_true hb)
   refine wp_skip (qz (wp_seq (wp_block (wp_seq (qbj (Keep w14) [] ?_)))))
   intro w15 e1; have hK4 := keep_drew e1; replace h := h w15 e1
   refine qbo 0 rfl (qbz (v := .slice A8 n5 c8)) ?_
   obtain ⟨b5, o3, rfl, h⟩ := h
   obtain ⟨h1, h2, h⟩ := h
   refine qbo 1 rfl (qbu (k := .i64) (j := 0) (b := b5) (off := o3) (n := n5) (c := c8) rfl Tryz.underlying132 Tryz.sizeOf23 h1 h2) ?_
   obtain ⟨x15, hx, h⟩ := h
   refine qbn 2 rfl (qbw (v := .int .u32 x15) rfl Tryz.isAgg23 (fun _ hk => keep_cell hk hx)) hK4 ?_
   refine qbo 3 rfl (qbz (v := .slice (some ⟨b5, o3, none⟩) n5 c8)) ?_
   obtain ⟨h1, h2, h⟩ := h
   refine qbo 4 rfl (qbu (k := .i64) (j := 4) (b := b5) (off := o3) (n := n5) (c := c8) rfl Tryz.underlying132 Tryz.sizeOf23 h1 h2) ?_
   obtain ⟨x16, hx, h⟩ := h
   refine qbn 5 rfl (qbw (v := .int .u32 x16) rfl Tryz.isAgg23 (fun _ hk => keep_cell hk hx)) hK4 ?_
   refine qbo 6 rfl (qbz (v := .int .u32 x15)) (qbo 7 rfl (qbz (v := .int .u32 x16)) (qbk (qz (wp_seq (qbj (Keep w15) [] ?_)))))
   intro w16 e1; have hK5 := keep_drew e1; replace h := h w16 e1
   refine qbo 0 rfl (qbz (v := .slice (some ⟨b5, o3, none⟩) n5 c8)) ?_
   obtain ⟨h1, h2, h⟩ := h
   refine qbo 1 rfl (qbu (k := .i64) (j := 7) (b := b5) (off := o3) (n := n5) (c := c8) rfl Tryz.underlying132 Tryz.sizeOf23 h1 h2) ?_
   obtain ⟨x17, hx, h⟩ := h
   refine qbn 2 rfl (qbw (v := .int .u32 x17) rfl Tryz.isAgg23 (fun _ hk => keep_cell hk hx)) hK5 ?_
   refine qbo 3 rfl (qbz (v := .int .u32 x16)) (qbo 5 rfl (qbz (v := .int .u32 x16)) (qbo 8 rfl (qbz (v := .int .u32 x16)) (qbo 12 rfl (qbz (v := .int .u32 x16)) (qbo 13 rfl (qbz (v := .slice (some ⟨b5, o3, none⟩) n5 c8)) ?_))))
   obtain ⟨h1, h2, h⟩ := h
   refine qbo 14 rfl (qbu (k := .i64) (j := 5) (b := b5) (off := o3) (n := n5) (c := c8) rfl Tryz.underlying132 Tryz.sizeOf23 h1 h2) ?_
   obtain ⟨x18, hx, h⟩ := h
   refine qbn 15 rfl (qbw (v := .int .u32 x18) rfl Tryz.isAgg23 (fun _ hk => keep_cell hk hx)) hK5 ?_
   refine qbo 16 rfl (qbz (v := .int .u32 (bAnd .u32 x16 x18))) (qbo 17 rfl (qbz (v := .int .u32 x16)) (qbo 18 rfl (qbz (v := .int .u32 (IntKind.u32.wrap (4294967295 - x16)))) (qbo 19 rfl (qbz (v := .slice (some ⟨b5, o3, none⟩) n5 c8)) ?_)))
   obtain ⟨h1, h2, h⟩ := h
   refine qbo 20 rfl (qbu (k := .i64) (j := 6) (b := b5) (off := o3) (n := n5) (c := c8) rfl Tryz.underlying132 Tryz.sizeOf23 h1 h2) ?_
   obtain ⟨x19, hx, h⟩ := h
   refine qbn 21 rfl (qbw (v := .int .u32 x19) rfl Tryz.isAgg23 (fun _ hk => keep_cell hk hx)) hK5 ?_
   refine qbo 22 rfl (qbz (v := .int .u32 (bAnd .u32 (IntKind.u32.wrap (4294967295 - x16)) x19))) (qbo 23 rfl (qbz (v := .int .u32 (bXor .u32 (bAnd .u32 x16 x18) (bAnd .u32 (IntKind.u32.wrap (4294967295 - x16)) x19)))) (qbo 25 rfl (qbz (v := .slice A1 n1 c1)) (qbo 26 rfl (qbz (v := .int .i64 x14)) ?_)))
   obtain ⟨b6, o4, rfl, h⟩ := h
   obtain ⟨h1, h2, h⟩ := h
   refine qbo 27 rfl (qbu (k := .i64) (j := x14) (b := b6) (off := o4) (n := n1) (c := c1) rfl Tryz.underlying132 Tryz.sizeOf23 h1 h2) ?_
   obtain ⟨x20, hx, h⟩ := h
   refine qbn 28 rfl (qbw (v := .int .u32 x20) rfl Tryz.isAgg23 (fun _ hk => keep_cell hk hx)) hK5 ?_
   refine qbo 30 rfl (qbz (v := .slice A4 n4 c4)) (qbo 31 rfl (qbz (v := .int .i64 x14)) ?_)
   obtain ⟨b7, o5, rfl, h⟩ := h
   obtain ⟨h1, h2, h⟩ := h
   refine qbo 32 rfl (qbu (k := .i64) (j := x14) (b := b7) (off := o5) (n := n4) (c := c4) rfl Tryz.underlying132 Tryz.sizeOf23 h1 h2) ?_
   obtain ⟨x21, hx, h⟩ := h
   refine qbn 33 rfl (qbw (v := .int .u32 x21) rfl Tryz.isAgg23 (fun _ hk => keep_cell hk hx)) hK5 ?_
   refine qbm 4 rfl (qai (args := #[.int .u32 x16, .int .i64 6]) rfl Tryz.call83 (Ret.mono h ?_))
   clear h; rintro r5 w17 ⟨x22, rfl, h⟩
   obtain ⟨hK6, h⟩ := h
   refine ⟨fun _ _ => hK6, ?_⟩
   refine qbm 6 rfl (qai (args := #[.int .u32 x16, .int .i64 11]) rfl Tryz.call83 (Ret.mono h ?_))
   clear h; rintro r6 w18 ⟨x23, rfl, h⟩
   obtain ⟨hK7, h⟩ := h
   refine ⟨fun _ _ => hK7, ?_⟩
   refine qbo 7 rfl (qbz (v := .int .u32 (bXor .u32 x22 x23))) (qbm 9 rfl (qai (args := #[.int .u32 x16, .int .i64 25]) rfl Tryz.call83 (Ret.mono h ?_)))
   clear h; rintro r7 w19 ⟨x24, rfl, h⟩
   obtain ⟨hK8, h⟩ := h
   refine ⟨fun _ _ => hK8, ?_⟩
   refine qbo 10 rfl (qbz (v := .int .u32 (bXor .u32 (bXor .u32 x22 x23) x24))) (qbo 11 rfl (qbz (v := .int .u32 (IntKind.u32.wrap (x17 + (bXor .u32 (bXor .u32 x22 x23) x24))))) (qbo 24 rfl (qbz (v := .int .u32 (IntKind.u32.wrap ((IntKind.u32.wrap (x17 + (bXor .u32 (bXor .u32 x22 x23) x24))) + (bXor .u32 (bAnd .u32 x16 x18) (bAnd .u32 (IntKind.u32.wrap (4294967295 - x16)) x19)))))) (qbo 29 rfl (qbz (v := .int .u32 (IntKind.u32.wrap ((IntKind.u32.wrap ((IntKind.u32.wrap (x17 + (bXor .u32 (bXor .u32 x22 x23) x24))) + (bXor .u32 (bAnd .u32 x16 x18) (bAnd .u32 (IntKind.u32.wrap (4294967295 - x16)) x19)))) + x20)))) (qbo 34 rfl (qbz (v := .int .u32 (IntKind.u32.wrap ((IntKind.u32.wrap ((IntKind.u32.wrap ((IntKind.u32.wrap (x17 + (bXor .u32 (bXor .u32 x22 x23) x24))) + (bXor .u32 (bAnd .u32 x16 x18) (bAnd .u32 (IntKind.u32.wrap (4294967295 - x16)) x19)))) + x20)) + x21)))) (qbo 35 rfl (qbz (v := .int .u32 (IntKind.u32.wrap ((IntKind.u32.wrap ((IntKind.u32.wrap ((IntKind.u32.wrap (x17 + (bXor .u32 (bXor .u32 x22 x23) x24))) + (bXor .u32 (bAnd .u32 x16 x18) (bAnd .u32 (IntKind.u32.wrap (4294967295 - x16)) x19)))) + x20)) + x21)))) (qbk (qz (wp_seq (qbj (Keep w19) [] ?_)))))))))
   intro w20 e1; have hK9 := keep_drew e1; replace h := h w20 e1
   refine qbo 0 rfl (qbz (v := .int .u32 x15)) (qbo 2 rfl (qbz (v := .int .u32 x15)) (qbo 5 rfl (qbz (v := .int .u32 x15)) (qbo 8 rfl (qbz (v := .int .u32 x15)) (qbo 9 rfl (qbz (v := .slice (some ⟨b5, o3, none⟩) n5 c8)) ?_))))
   obtain ⟨h1, h2, h⟩ := h
   refine qbo 10 rfl (qbu (k := .i64) (j := 1) (b := b5) (off := o3) (n := n5) (c := c8) rfl Tryz.underlying132 Tryz.sizeOf23 h1 h2) ?_
   obtain ⟨x25, hx, h⟩ := h
   refine qbn 11 rfl (qbw (v := .int .u32 x25) rfl Tryz.isAgg23 (fun _ hk => keep_cell hk hx)) hK9 ?_
   refine qbo 12 rfl (qbz (v := .int .u32 (bAnd .u32 x15 x25))) (qbo 13 rfl (qbz (v := .int .u32 x15)) (qbo 14 rfl (qbz (v := .slice (some ⟨b5, o3, none⟩) n5 c8)) ?_))
   obtain ⟨h1, h2, h⟩ := h
   refine qbo 15 rfl (qbu (k := .i64) (j := 2) (b := b5) (off := o3) (n := n5) (c := c8) rfl Tryz.underlying132 Tryz.sizeOf23 h1 h2) ?_
   obtain ⟨x26, hx, h⟩ := h
   refine qbn 16 rfl (qbw (v := .int .u32 x26) rfl Tryz.isAgg23 (fun _ hk => keep_cell hk hx)) hK9 ?_
   refine qbo 17 rfl (qbz (v := .int .u32 (bAnd .u32 x15 x26))) (qbo 18 rfl (qbz (v := .int .u32 (bXor .u32 (bAnd .u32 x15 x25) (bAnd .u32 x15 x26)))) (qbo 19 rfl (qbz (v := .slice (some ⟨b5, o3, none⟩) n5 c8)) ?_))
   obtain ⟨h1, h2, h⟩ := h
   refine qbo 20 rfl (qbu (k := .i64) (j := 1) (b := b5) (off := o3) (n := n5) (c := c8) rfl Tryz.underlying132 Tryz.sizeOf23 h1 h2) ?_
   obtain ⟨x27, hx, h⟩ := h
   refine qbn 21 rfl (qbw (v := .int .u32 x27) rfl Tryz.isAgg23 (fun _ hk => keep_cell hk hx)) hK9 ?_
   refine qbo 22 rfl (qbz (v := .slice (some ⟨b5, o3, none⟩) n5 c8)) ?_
   obtain ⟨h1, h2, h⟩ := h
   refine qbo 23 rfl (qbu (k := .i64) (j := 2) (b := b5) (off := o3) (n := n5) (c := c8) rfl Tryz.underlying132 Tryz.sizeOf23 h1 h2) ?_
   obtain ⟨x28, hx, h⟩ := h
   refine qbn 24 rfl (qbw (v := .int .u32 x28) rfl Tryz.isAgg23 (fun _ hk => keep_cell hk hx)) hK9 ?_
   refine qbo 25 rfl (qbz (v := .int .u32 (bAnd .u32 x27 x28))) (qbo 26 rfl (qbz (v := .int .u32 (bXor .u32 (bXor .u32 (bAnd .u32 x15 x25) (bAnd .u32 x15 x26)) (bAnd .u32 x27 x28)))) (qbm 1 rfl (qai (args := #[.int .u32 x15, .int .i64 2]) rfl Tryz.call83 (Ret.mono h ?_))))
   clear h; rintro r8 w21 ⟨x29, rfl, h⟩
   obtain ⟨hK10, h⟩ := h
   refine ⟨fun _ _ => hK10, ?_⟩
   refine qbm 3 rfl (qai (args := #[.int .u32 x15, .int .i64 13]) rfl Tryz.call83 (Ret.mono h ?_))
   clear h; rintro r9 w22 ⟨x30, rfl, h⟩
   obtain ⟨hK11, h⟩ := h
   refine ⟨fun _ _ => hK11, ?_⟩
   refine qbo 4 rfl (qbz (v := .int .u32 (bXor .u32 x29 x30))) (qbm 6 rfl (qai (args := #[.int .u32 x15, .int .i64 22]) rfl Tryz.call83 (Ret.mono h ?_)))
   clear h; rintro r10 w23 ⟨x31, rfl, h⟩
   obtain ⟨hK12, h⟩ := h
   refine ⟨fun _ _ => hK12, ?_⟩
   refine qbo 7 rfl (qbz (v := .int .u32 (bXor .u32 (bXor .u32 x29 x30) x31))) (qbo 27 rfl (qbz (v := .int .u32 (IntKind.u32.wrap ((bXor .u32 (bXor .u32 x29 x30) x31) + (bXor .u32 (bXor .u32 (bAnd .u32 x15 x25) (bAnd .u32 x15 x26)) (bAnd .u32 x27 x28)))))) (qbo 28 rfl (qbz (v := .int .u32 (IntKind.u32.wrap ((bXor .u32 (bXor .u32 x29 x30) x31) + (bXor .u32 (bXor .u32 (bAnd .u32 x15 x25) (bAnd .u32 x15 x26)) (bAnd .u32 x27 x28)))))) (qbk (qz (qbj (Keep w23) [26] ?_)))))
   intro w24 e1; have hK13 := keep_drew e1; replace h := h w24 e1
   refine qbo 0 rfl (qbz (v := .int .u32 (IntKind.u32.wrap ((IntKind.u32.wrap ((IntKind.u32.wrap ((IntKind.u32.wrap (x17 + (bXor .u32 (bXor .u32 x22 x23) x24))) + (bXor .u32 (bAnd .u32 x16 x18) (bAnd .u32 (IntKind.u32.wrap (4294967295 - x16)) x19)))) + x20)) + x21)))) (qbo 1 rfl (qbz (v := .int .u32 (IntKind.u32.wrap ((bXor .u32 (bXor .u32 x29 x30) x31) + (bXor .u32 (bXor .u32 (bAnd .u32 x15 x25) (bAnd .u32 x15 x26)) (bAnd .u32 x27 x28)))))) (qbo 2 rfl (qbz (v := .int .u32 (IntKind.u32.wrap ((IntKind.u32.wrap ((IntKind.u32.wrap ((IntKind.u32.wrap ((IntKind.u32.wrap (x17 + (bXor .u32 (bXor .u32 x22 x23) x24))) + (bXor .u32 (bAnd .u32 x16 x18) (bAnd .u32 (IntKind.u32.wrap (4294967295 - x16)) x19)))) + x20)) + x21)) + (IntKind.u32.wrap ((bXor .u32 (bXor .u32 x29 x30) x31) + (bXor .u32 (bXor .u32 (bAnd .u32 x15 x25) (bAnd .u32 x15 x26)) (bAnd .u32 x27 x28)))))))) (qbo 3 rfl (qbz (v := .slice (some ⟨b5, o3, none⟩) n5 c8)) ?_)))
   obtain ⟨h1, h2, h⟩ := h
   refine qbo 4 rfl (qbu (k := .i64) (j := 0) (b := b5) (off := o3) (n := n5) (c := c8) rfl Tryz.underlying132 Tryz.sizeOf23 h1 h2) ?_
   obtain ⟨x32, hx, h⟩ := h
   refine qbn 5 rfl (qbw (v := .int .u32 x32) rfl Tryz.isAgg23 (fun _ hk => keep_cell hk hx)) hK13 ?_
   refine qbo 6 rfl (qbz (v := .slice (some ⟨b5, o3, none⟩) n5 c8)) ?_
   obtain ⟨h1, h2, h⟩ := h
   refine qbo 7 rfl (qbu (k := .i64) (j := 1) (b := b5) (off := o3) (n := n5) (c := c8) rfl Tryz.underlying132 Tryz.sizeOf23 h1 h2) ?_
   obtain ⟨x33, hx, h⟩ := h
   refine qbn 8 rfl (qbw (v := .int .u32 x33) rfl Tryz.isAgg23 (fun _ hk => keep_cell hk hx)) hK13 ?_
   refine qbo 9 rfl (qbz (v := .slice (some ⟨b5, o3, none⟩) n5 c8)) ?_
   obtain ⟨h1, h2, h⟩ := h
   refine qbo 10 rfl (qbu (k := .i64) (j := 2) (b := b5) (off := o3) (n := n5) (c := c8) rfl Tryz.underlying132 Tryz.sizeOf23 h1 h2) ?_
   obtain ⟨x34, hx, h⟩ := h
   refine qbn 11 rfl (qbw (v := .int .u32 x34) rfl Tryz.isAgg23 (fun _ hk => keep_cell hk hx)) hK13 ?_
   refine qbo 12 rfl (qbz (v := .slice (some ⟨b5, o3, none⟩) n5 c8)) ?_
   obtain ⟨h1, h2, h⟩ := h
   refine qbo 13 rfl (qbu (k := .i64) (j := 3) (b := b5) (off := o3) (n := n5) (c := c8) rfl Tryz.underlying132 Tryz.sizeOf23 h1 h2) ?_
   obtain ⟨x35, hx, h⟩ := h
   refine qbn 14 rfl (qbw (v := .int .u32 x35) rfl Tryz.isAgg23 (fun _ hk => keep_cell hk hx)) hK13 ?_
   refine qbo 15 rfl (qbz (v := .int .u32 (IntKind.u32.wrap ((IntKind.u32.wrap ((IntKind.u32.wrap ((IntKind.u32.wrap (x17 + (bXor .u32 (bXor .u32 x22 x23) x24))) + (bXor .u32 (bAnd .u32 x16 x18) (bAnd .u32 (IntKind.u32.wrap (4294967295 - x16)) x19)))) + x20)) + x21)))) (qbo 16 rfl (qbz (v := .int .u32 (IntKind.u32.wrap (x35 + (IntKind.u32.wrap ((IntKind.u32.wrap ((IntKind.u32.wrap ((IntKind.u32.wrap (x17 + (bXor .u32 (bXor .u32 x22 x23) x24))) + (bXor .u32 (bAnd .u32 x16 x18) (bAnd .u32 (IntKind.u32.wrap (4294967295 - x16)) x19)))) + x20)) + x21)))))) (qbo 17 rfl (qbz (v := .slice (some ⟨b5, o3, none⟩) n5 c8)) ?_))
   obtain ⟨h1, h2, h⟩ := h
   refine qbo 18 rfl (qbu (k := .i64) (j := 4) (b := b5) (off := o3) (n := n5) (c := c8) rfl Tryz.underlying132 Tryz.sizeOf23 h1 h2) ?_
   obtain ⟨x36, hx, h⟩ := h
   refine qbn 19 rfl (qbw (v := .int .u32 x36) rfl Tryz.isAgg23 (fun _ hk => keep_cell hk hx)) hK13 ?_
   refine qbo 20 rfl (qbz (v := .slice (some ⟨b5, o3, none⟩) n5 c8)) ?_
   obtain ⟨h1, h2, h⟩ := h
   refine qbo 21 rfl (qbu (k := .i64) (j := 5) (b := b5) (off := o3) (n := n5) (c := c8) rfl Tryz.underlying132 Tryz.sizeOf23 h1 h2) ?_
   obtain ⟨x37, hx, h⟩ := h
   refine qbn 22 rfl (qbw (v := .int .u32 x37) rfl Tryz.isAgg23 (fun _ hk => keep_cell hk hx)) hK13 ?_
   refine qbo 23 rfl (qbz (v := .slice (some ⟨b5, o3, none⟩) n5 c8)) ?_
   obtain ⟨h1, h2, h⟩ := h
   refine qbo 24 rfl (qbu (k := .i64) (j := 6) (b := b5) (off := o3) (n := n5) (c := c8) rfl Tryz.underlying132 Tryz.sizeOf23 h1 h2) ?_
   obtain ⟨x38, hx, h⟩ := h
   refine qbn 25 rfl (qbw (v := .int .u32 x38) rfl Tryz.isAgg23 (fun _ hk => keep_cell hk hx)) hK13 ?_
   refine qbm 26 rfl (qag (cs := ([.int .u32 (IntKind.u32.wrap ((IntKind.u32.wrap ((IntKind.u32.wrap ((IntKind.u32.wrap ((IntKind.u32.wrap (x17 + (bXor .u32 (bXor .u32 x22 x23) x24))) + (bXor .u32 (bAnd .u32 x16 x18) (bAnd .u32 (IntKind.u32.wrap (4294967295 - x16)) x19)))) + x20)) + x21)) + (IntKind.u32.wrap ((bXor .u32 (bXor .u32 x29 x30) x31) + (bXor .u32 (bXor .u32 (bAnd .u32 x15 x25) (bAnd .u32 x15 x26)) (bAnd .u32 x27 x28)))))), .int .u32 x32, .int .u32 x33, .int .u32 x34, .int .u32 (IntKind.u32.wrap (x35 + (IntKind.u32.wrap ((IntKind.u32.wrap ((IntKind.u32.wrap ((IntKind.u32.wrap (x17 + (bXor .u32 (bXor .u32 x22 x23) x24))) + (bXor .u32 (bAnd .u32 x16 x18) (bAnd .u32 (IntKind.u32.wrap (4294967295 - x16)) x19)))) + x20)) + x21)))), .int .u32 x36, .int .u32 x37, .int .u32 x38] : List Value)) rfl Tryz.underlying132 Tryz.sizeOf23 Tryz.zeroValue23 (by kernel_rfl) (by decide) (by decide) ?_)
   intro b8 w25 e1 e2; replace h := h b8 w25 e1 e2
   refine ⟨fun hh => absurd hh (by decide), ?_⟩
   refine qbo 27 rfl (qbz (v := .slice (some ⟨b8, 0, none⟩) 8 8)) (qbk (qu (qz (qx (qbr (qz ?_))))))
   exact ⟨((some ⟨b8, 0, none⟩), 8, 8, (IntKind.i64.wrap (x14 + 1))), qaa, h.1, h.2⟩
  ·replace h := h.2 (of_decide_eq_false hb)
   refine wp_exit (qr (qr (block_exit_eq (qz (wp_seq (qx (qbr (qz (wp_seq (wp_seq (qx (qbr (qz (wp_block ?_))))))))))))))
   obtain ⟨I3, μ3, hI3, hB3⟩ := h
   refine wp_loop_st (σ := (Option Addr) × Nat × Nat × Int) (fun s a => ∃ u3 : Nat → Value, a = ⟨#[.slice A1 n1 c1, .slice A2 n2 c2, .slice A3 n3 c3, undef, undef, undef, .slice none 0 0, .slice A4 n4 c4, .int .i64 x1, u1 9, u1 10, u1 11, u1 12, .slice A8 n5 c8, .int .i64 x14, u2 15, u2 16, u2 17, u2 18, .slice s.1 s.2.1 s.2.2.1, .int .i64 s.2.2.2, .int .i64 x1, .bool (decide (x1 < 64)), u1 23, u1 24, u1 25, u1 26, u1 27, u1 28, u1 29, u1 30, u1 31, u1 32, u1 33, u1 34, u1 35, u1 36, u1 37, u1 38, u1 39, u1 40, u1 41, u1 42, u1 43, u1 44, u1 45, u1 46, u1 47, u1 48, u1 49, u1 50, u1 51, u1 52, u1 53, u1 54, u1 55, u1 56, u1 57, u1 58, u1 59, u1 60, u1 61, u1 62, u1 63, u1 64, u1 65, u1 66, u1 67, u1 68, u1 69, u1 70, u1 71, u1 72, u1 73, u1 74, u1 75, u1 76, u1 77, u1 78, u1 79, u1 80, u1 81, u1 82, u1 83, u1 84, u1 85, u1 86, u1 87, u1 88, u1 89, u1 90, u1 91, u1 92, u1 93, u1 94, u1 95, u1 96, u1 97, u1 98, u1 99, u1 100, u1 101, u1 102, u1 103, u1 104, u1 105, u1 106, .slice A2 n2 c2, .slice A7 (0 + n2) c7, .int .i64 x14, .bool (decide (x14 < 64)), u2 111, u2 112, u2 113, u2 114, u2 115, u2 116, u2 117, u2 118, u2 119, u2 120, u2 121, u2 122, u2 123, u2 124, u2 125, u2 126, u2 127, u2 128, u2 129, u2 130, u2 131, u2 132, u2 133, u2 134, u2 135, u2 136, u2 137, u2 138, u2 139, u2 140, u2 141, u2 142, u2 143, u2 144, u2 145, u2 146, u2 147, u2 148, u2 149, u2 150, u2 151, u2 152, u2 153, u2 154, u2 155, u2 156, u2 157, u2 158, u2 159, u2 160, u2 161, u2 162, u2 163, u2 164, u2 165, u2 166, u2 167, u2 168, u2 169, u2 170, u2 171, u2 172, u2 173, u2 174, u2 175, u2 176, u2 177, u2 178, u2 179, u2 180, u2 181, u2 182, u2 183, u2 184, u2 185, u2 186, u2 187, u2 188, u2 189, u2 190, u2 191, u2 192, u2 193, u2 194, u2 195, u2 196, u2 197, u2 198, u2 199, u2 200, u2 201, u2 202, u2 203, u2 204, u2 205, u2 206, u2 207, u2 208, u3 209, u3 210, u3 211, u3 212, u3 213, u3 214, u3 215, u3 216, u3 217, u3 218, u3 219, u3 220, u3 221, u3 222, u3 223, u3 224, undef], []⟩) (fun s w => I3 s.1 s.2.1 s.2.2.1 s.2.2.2 w) (fun s w => μ3 s.1 s.2.1 s.2.2.1 s.2.2.2 w) (none, 0, 0, 0) (qaa) hI3 ?_
   rintro ⟨A9, n6, c9, x39⟩ a w26 ⟨u3, rfl⟩ hI3
   have h := hB3 A9 n6 c9 x39 w26 hI3
   refine wp_seq (wp_seq (qx (qbr (qz (wp_cond_split (t := (decide (x39 < 8))) (by kernel_rfl) (fun hb => ?_) (fun hb => ?_))))))
   ·replace h := h.1 (of_decide_eq_true hb)
    refine wp_skip (qz (wp_seq (wp_block (qbj (Keep w26) [10, 11] ?_))))
    intro w27 e1; have hK14 := keep_drew e1; replace h := h w27 e1
    refine qbo 0 rfl (qbz (v := .slice A9 n6 c9)) (qbo 1 rfl (qbz (v := .slice A8 n5 c8)) (qbo 2 rfl (qbz (v := .int .i64 x39)) ?_))
    obtain ⟨b9, o6, rfl, h⟩ := h
    obtain ⟨h1, h2, h⟩ := h
    refine qbo 3 rfl (qbu (k := .i64) (j := x39) (b := b9) (off := o6) (n := n5) (c := c8) rfl Tryz.underlying132 Tryz.sizeOf23 h1 h2) ?_
    obtain ⟨x40, hx, h⟩ := h
    refine qbn 4 rfl (qbw (v := .int .u32 x40) rfl Tryz.isAgg23 (fun _ hk => keep_cell hk hx)) hK14 ?_
    refine qbo 5 rfl (qbz (v := .slice A2 n2 c2)) (qbo 6 rfl (qbz (v := .int .i64 x39)) ?_)
    obtain ⟨b10, o7, rfl, h⟩ := h
    obtain ⟨h1, h2, h⟩ := h
    refine qbo 7 rfl (qbu (k := .i64) (j := x39) (b := b10) (off := o7) (n := n2) (c := c2) rfl Tryz.underlying132 Tryz.sizeOf23 h1 h2) ?_
    obtain ⟨x41, hx, h⟩ := h
    refine qbn 8 rfl (qbw (v := .int .u32 x41) rfl Tryz.isAgg23 (fun _ hk => keep_cell hk hx)) hK14 ?_
    refine qbo 9 rfl (qbz (v := .int .u32 (IntKind.u32.wrap (x40 + x41)))) (qbm 10 rfl (qag (cs := ([.int .u32 (IntKind.u32.wrap (x40 + x41))] : List Value)) rfl Tryz.underlying132 Tryz.sizeOf23 Tryz.zeroValue23 (by kernel_rfl) (by decide) (by decide) ?_))
    intro b11 w28 e1 e2; replace h := h b11 w28 e1 e2
    refine ⟨fun hh => absurd hh (by decide), ?_⟩
    obtain ⟨l7, l8, h1, h2, h3, h4, h5, h6, h7, h⟩ := h
    refine qbm 11 rfl (qad (A := A9) (n := n6) (c := c9) (B := (some ⟨b11, 0, none⟩)) (m := 1) (c2 := 1) (olds := l7) (news := l8) rfl Tryz.underlying132 Tryz.underlying132 Tryz.typeInfo23 rfl (by decide) h1 h2 h3 h4 h5 h6 h7 ?_)
    intro A10 c10 w29 e1; replace h := h A10 c10 w29 e1
    refine ⟨fun hh => absurd hh (by decide), ?_⟩
    refine qbo 12 rfl (qbz (v := .slice A10 (n6 + 1) c10)) (qbk (qu (qz (qx (qbr (qz ?_))))))
    exact ⟨(A10, (n6 + 1), c10, (IntKind.i64.wrap (x39 + 1))), qaa, h.1, h.2⟩
   ·replace h := h.2 (of_decide_eq_false hb)
    refine wp_exit (qr (qr (block_exit_eq (qz (wp_seq (qx (qbr (qz (wp_ret ?_)))))))))
    exact qbh (v := .slice A9 n6 c9) h
def S_77 (A1 : Option Addr) (n1 c1 : Nat) (w : World) (Q : Value → World → Prop) : Prop :=
 ∀ b1 w1, b1 = w.heap.size → w1 = w.alloc (.cells (List.replicate 32 (.int .u8 0 : Value)).toArray 22) →
 Ret Tryz.prog 96 #[] w1 fun r1 w2 => ∃ (d1 : List Value) (A2 : Option Addr) (n2 : Nat) (c2 : Nat) (x1 : Int), r1 = .agg (d1 ++ ([.slice A2 n2 c2, .int .u64 x1] : List Value)).toArray ∧ d1.length = 8 ∧
 ∀ b2 w3, b2 = w2.heap.size → w3 = w2.alloc (.cells ((List.replicate 8 (.int .u32 0 : Value)) ++ ([.slice none 0 0, .int .u64 0] : List Value)).toArray 164) →
 (d1 ++ ([.slice A2 n2 c2, .int .u64 x1] : List Value)).length = 10 ∧ One (d1 ++ ([.slice A2 n2 c2, .int .u64 x1] : List Value)) ∧ w3.there b2 0 10 ∧
 ∀ w4, w4 = w3.setCells b2 0 (d1 ++ ([.slice A2 n2 c2, .int .u64 x1] : List Value)) →
 ∃ (I1 : Int → World → Prop) (μ1 : Int → World → Nat), I1 0 w4 ∧
 ∀ x2 w5, I1 x2 w5 →
 (x2 < (n1 : Int) →
 ∃ b3 o1, A1 = some ⟨b3, o1, none⟩ ∧ (0 : Int) ≤ x2 ∧ x2 < (n1 : Int) ∧
 ∃ A3 n3 c3, w5.cell? ⟨b3, (o1 + (x2).toNat * 1), none⟩ = some (.slice A3 n3 c3) ∧
 ∃ (d2 : List Value) (A4 : Option Addr) (n4 : Nat) (c4 : Nat) (x3 : Int), d2.length = 8 ∧ w5.rangeAt b2 0 (d2 ++ ([.slice A4 n4 c4, .int .u64 x3] : List Value)) ∧
 Ret Tryz.prog 97 #[.agg (d2 ++ ([.slice A4 n4 c4, .int .u64 x3] : List Value)).toArray, .slice A3 n3 c3] w5 fun r2 w6 => ∃ (d3 : List Value) (A5 : Option Addr) (n5 : Nat) (c5 : Nat) (x4 : Int), r2 = .agg (d3 ++ ([.slice A5 n5 c5, .int .u64 x4] : List Value)).toArray ∧ d3.length = 8 ∧
 (d3 ++ ([.slice A5 n5 c5, .int .u64 x4] : List Value)).length = 10 ∧ One (d3 ++ ([.slice A5 n5 c5, .int .u64 x4] : List Value)) ∧ w6.there b2 0 10 ∧
 ∀ w7, w7 = w6.setCells b2 0 (d3 ++ ([.slice A5 n5 c5, .int .u64 x4] : List Value)) →
 I1 (IntKind.i64.wrap (x2 + 1)) w7 ∧ μ1 (IntKind.i64.wrap (x2 + 1)) w7 < μ1 x2 w5) ∧
 (¬ x2 < (n1 : Int) →
 ∃ (d4 : List Value) (A6 : Option Addr) (n6 : Nat) (c6 : Nat) (x5 : Int), d4.length = 8 ∧ w5.rangeAt b2 0 (d4 ++ ([.slice A6 n6 c6, .int .u64 x5] : List Value)) ∧
 Ret Tryz.prog 98 #[.agg (d4 ++ ([.slice A6 n6 c6, .int .u64 x5] : List Value)).toArray] w5 fun r3 w8 => ∃ (d5 : List Value), r3 = .agg d5.toArray ∧ d5.length = 32 ∧
 d5.length = 32 ∧ One d5 ∧ w8.there b1 0 32 ∧
 ∀ w9, w9 = w8.setCells b1 0 d5 →
 ∃ (d6 : List Value), d6.length = 32 ∧ w9.rangeAt b1 0 d6 ∧ Q (.agg d6.toArray) w9)
theorem L_77 (A1 : Option Addr) (n1 c1 : Nat) (w : World) (Q : Value → World → Prop) (h : S_77 A1 n1 c1 w Q) : Ret Tryz.prog 77 #[.slice A1 n1 c1] w Q := by
 unfold S_77 at h
 refine ret_of_wp Tryz.func77 rfl (wp_seq (qx (qq (qac rfl Tryz.zeroValue22 ?_))))
 intro b1 w1 e1 e2; replace h := h b1 w1 e1 e2
 refine qo (qz (wp_seq (qx (qq (qai (args := #[]) rfl Tryz.call96 (Ret.mono h ?_))))))
 clear h; rintro r1 w2 ⟨d1, A2, n2, c2, x1, rfl, hl0, h⟩
 refine qq (qac rfl Tryz.zeroValue164 ?_)
 intro b2 w3 e1 e2; replace h := h b2 w3 e1 e2
 obtain ⟨hl, h1, hw, h⟩ := h
 refine qq (qbd (cs := (d1 ++ ([.slice A2 n2 c2, .int .u64 x1] : List Value))) rfl Tryz.sizeOf164 hl h1 hw ?_)
 intro w4 e1; replace h := h w4 e1
 refine qo (qz (wp_seq (wp_seq (qx (qbr (qz (wp_block ?_)))))))
 obtain ⟨I1, μ1, hI1, hB1⟩ := h
 refine wp_loop_st (σ := Int) (fun s a => ∃ u1 : Nat → Value, a = ⟨#[.slice A1 n1 c1, undef, .pointer (some ⟨b1, 0, none⟩), .pointer (some ⟨b2, 0, none⟩), undef, u1 5, .agg (d1 ++ ([.slice A2 n2 c2, .int .u64 x1] : List Value)).toArray, .slice A1 n1 c1, .int .i64 (n1 : Int), .int .i64 s, u1 10, u1 11, u1 12, u1 13, u1 14, u1 15, u1 16, undef, undef], []⟩) (fun s w => I1 s w) (fun s w => μ1 s w) (0) (qaa) hI1 ?_
 rintro x2 a w5 ⟨u1, rfl⟩ hI1
 have h := hB1 x2 w5 hI1
 refine wp_seq (qx (qbr (qz (wp_seq (wp_cond_split (t := (decide (x2 < (n1 : Int)))) (by kernel_rfl) (fun hb => ?_) (fun hb => ?_))))))
 ·replace h := h.1 (of_decide_eq_true hb)
  refine wp_skip (qz (wp_seq (wp_block (wp_seq (qx ?_)))))
  obtain ⟨b3, o1, rfl, h⟩ := h
  obtain ⟨h1, h2, h⟩ := h
  refine qq (qan (k := .i64) (j := x2) (b := b3) (off := o1) (n := n1) (c := c1) rfl Tryz.underlying140 Tryz.sizeOf62 h1 h2 ?_)
  obtain ⟨A3, n3, c3, hx, h⟩ := h
  refine qq (qap (v := .slice A3 n3 c3) rfl Tryz.isAgg62 hx ?_)
  refine qbr (qz (qx ?_))
  obtain ⟨d2, A4, n4, c4, x3, hl0, hx, h⟩ := h
  refine qq (qaq (cs := (d2 ++ ([.slice A4 n4 c4, .int .u64 x3] : List Value))) rfl Tryz.isAgg164 Tryz.sizeOf164 (by simp [hl0]) hx ?_)
  refine qbt 1 (qq (qai (args := #[.agg (d2 ++ ([.slice A4 n4 c4, .int .u64 x3] : List Value)).toArray, .slice A3 n3 c3]) rfl Tryz.call97 (Ret.mono h ?_)))
  clear h; rintro r2 w6 ⟨d3, A5, n5, c5, x4, rfl, hl0, h⟩
  obtain ⟨hl, h1, hw, h⟩ := h
  refine qq (qbd (cs := (d3 ++ ([.slice A5 n5 c5, .int .u64 x4] : List Value))) rfl Tryz.sizeOf164 hl h1 hw ?_)
  intro w7 e1; replace h := h w7 e1
  refine qo (qu (qz (qx (qbr (qz ?_)))))
  exact ⟨((IntKind.i64.wrap (x2 + 1))), qaa, h.1, h.2⟩
 ·replace h := h.2 (of_decide_eq_false hb)
  refine wp_exit (qr (qr (block_exit_eq (qz (wp_seq (qx ?_))))))
  obtain ⟨d4, A6, n6, c6, x5, hl0, hx, h⟩ := h
  refine qq (qaq (cs := (d4 ++ ([.slice A6 n6 c6, .int .u64 x5] : List Value))) rfl Tryz.isAgg164 Tryz.sizeOf164 (by simp [hl0]) hx ?_)
  refine qq (qai (args := #[.agg (d4 ++ ([.slice A6 n6 c6, .int .u64 x5] : List Value)).toArray]) rfl Tryz.call98 (Ret.mono h ?_))
  clear h; rintro r3 w8 ⟨d5, rfl, hl0, h⟩
  obtain ⟨hl, h1, hw, h⟩ := h
  refine qq (qbd (cs := d5) rfl Tryz.sizeOf22 hl h1 hw ?_)
  intro w9 e1; replace h := h w9 e1
  refine qo (qz (wp_ret ?_))
  obtain ⟨d6, hl0_0, hx0, h⟩ := h
  exact qbi (vs := [.agg d6.toArray]) (v := .agg d6.toArray) Tryz.results77 ⟨⟨b1, 0, by kernel_rfl, run_loadN Tryz.isAgg22 Tryz.sizeOf22 (by simp [hl0_0]) hx0⟩, trivial⟩ h
def S_80 (x1 : Int) (w : World) (Q : Value → World → Prop) : Prop :=
 ∃ (I1 : (Option Addr) → Nat → Nat → Int → World → Prop) (μ1 : (Option Addr) → Nat → Nat → Int → World → Nat), I1 none 0 0 2 w ∧
 ∀ A1 n1 c1 x2 w1, I1 A1 n1 c1 x2 w1 →
 ((n1 : Int) < x1 →
 ∃ (I2 : Bool → Int → World → Prop) (μ2 : Bool → Int → World → Nat), I2 true 0 w1 ∧
 ∀ q1 x3 w2, I2 q1 x3 w2 →
 (x3 < (n1 : Int) →
 (q1 = true →
 ∃ b1 o1, A1 = some ⟨b1, o1, none⟩ ∧ (0 : Int) ≤ x3 ∧ x3 < (n1 : Int) ∧
 ∃ x4, w2.cell? ⟨b1, (o1 + (x3).toNat * 1), none⟩ = some (.int .u64 x4) ∧
 x4 ≠ 0 ∧
 I2 ((x2.tmod x4) != 0) (IntKind.i64.wrap (x3 + 1)) w2 ∧ μ2 ((x2.tmod x4) != 0) (IntKind.i64.wrap (x3 + 1)) w2 < μ2 q1 x3 w2) ∧
 (q1 = false →
 I2 false (IntKind.i64.wrap (x3 + 1)) w2 ∧ μ2 false (IntKind.i64.wrap (x3 + 1)) w2 < μ2 q1 x3 w2)) ∧
 (¬ x3 < (n1 : Int) →
 (q1 = true →
 ∀ b2 w3, b2 = w2.heap.size → w3 = w2.alloc (.cells #[.int .u64 x2] 127) →
 ∃ l1 l2 : List Value, (n1 + 1) * 8 ≤ 140737488355328 ∧ l1.length = n1 * 1 ∧ RdS w3 A1 l1 ∧ l2.length = 1 * 1 ∧ RdS w3 (some ⟨b2, 0, none⟩) l2 ∧ One l2 ∧ (n1 + 1 ≤ c1 → Room w3 A1 (n1 * 1) (1 * 1)) ∧
 ∀ A2 c2 w4, Appended w3 127 1 #[.int .u64 0] A1 n1 c1 1 l1 l2 A2 c2 w4 →
 I1 A2 (n1 + 1) c2 (IntKind.u64.wrap (x2 + 1)) w4 ∧ μ1 A2 (n1 + 1) c2 (IntKind.u64.wrap (x2 + 1)) w4 < μ1 A1 n1 c1 x2 w1) ∧
 (q1 = false →
 I1 A1 n1 c1 (IntKind.u64.wrap (x2 + 1)) w2 ∧ μ1 A1 n1 c1 (IntKind.u64.wrap (x2 + 1)) w2 < μ1 A1 n1 c1 x2 w1))) ∧
 (¬ (n1 : Int) < x1 →
 Q (.slice A1 n1 c1) w1)
theorem L_80 (x1 : Int) (w : World) (Q : Value → World → Prop) (h : S_80 x1 w Q) : Ret Tryz.prog 80 #[.int .i64 x1] w Q := by
 unfold S_80 at h
 refine ret_of_wp Tryz.func80 rfl (wp_seq (qx (qbr (qz (wp_seq (qx (qbr (qz (wp_seq (wp_seq (qx (qbr (qz (wp_block ?_))))))))))))))
 obtain ⟨I1, μ1, hI1, hB1⟩ := h
 refine wp_loop_st (σ := (Option Addr) × Nat × Nat × Int) (fun s a => ∃ u1 : Nat → Value, a = ⟨#[.int .i64 x1, undef, .slice none 0 0, .slice s.1 s.2.1 s.2.2.1, .int .u64 s.2.2.2, u1 5, u1 6, u1 7, u1 8, u1 9, u1 10, u1 11, u1 12, u1 13, u1 14, u1 15, u1 16, u1 17, u1 18, u1 19, u1 20, u1 21, u1 22, u1 23, u1 24, u1 25, u1 26, u1 27, u1 28, u1 29, u1 30, u1 31, u1 32, u1 33, undef], []⟩) (fun s w => I1 s.1 s.2.1 s.2.2.1 s.2.2.2 w) (fun s w => μ1 s.1 s.2.1 s.2.2.1 s.2.2.2 w) (none, 0, 0, 2) (qaa) hI1 ?_
 rintro ⟨A1, n1, c1, x2⟩ a w1 ⟨u1, rfl⟩ hI1
 have h := hB1 A1 n1 c1 x2 w1 hI1
 refine wp_seq (wp_seq (qx (qbr (qz (wp_cond_split (t := (decide ((n1 : Int) < x1))) (by kernel_rfl) (fun hb => ?_) (fun hb => ?_))))))
 ·replace h := h.1 (of_decide_eq_true hb)
  refine wp_skip (qz (wp_seq (wp_block (wp_seq (qx (qbr (qz (wp_seq (wp_seq (qx (qbr (qz (wp_block ?_)))))))))))))
  obtain ⟨I2, μ2, hI2, hB2⟩ := h
  refine wp_loop_st (σ := Bool × Int) (fun s a => ∃ u2 : Nat → Value, a = ⟨#[.int .i64 x1, undef, .slice none 0 0, .slice A1 n1 c1, .int .u64 x2, .bool s.1, .int .i64 s.2, .slice A1 n1 c1, .int .i64 (n1 : Int), .int .i64 x1, .bool (decide ((n1 : Int) < x1)), u1 11, u1 12, u2 13, u2 14, u2 15, u2 16, u2 17, u2 18, u2 19, u2 20, u2 21, u2 22, u2 23, u2 24, u2 25, u2 26, u2 27, u2 28, u1 29, u1 30, u1 31, u1 32, u1 33, undef], []⟩) (fun s w => I2 s.1 s.2 w) (fun s w => μ2 s.1 s.2 w) (true, 0) (qaa) hI2 ?_
  rintro ⟨q1, x3⟩ a w2 ⟨u2, rfl⟩ hI2
  have h := hB2 q1 x3 w2 hI2
  refine wp_seq (wp_seq (qx (qbr (qz (wp_cond_split (t := (decide (x3 < (n1 : Int)))) (by kernel_rfl) (fun hb => ?_) (fun hb => ?_))))))
  ·replace h := h.1 (of_decide_eq_true hb)
   refine wp_skip (qz (wp_seq (wp_block (qx (qbt 2 (wl_split (e := q1) ?_ ?_))))))
   ·intro hb; refine qbs 20 (e := q1) (b := true) hb ?_
    replace h := h.1 (hb)
    refine qbt 3 ?_
    obtain ⟨b1, o1, rfl, h⟩ := h
    obtain ⟨h1, h2, h⟩ := h
    refine qq (qan (k := .i64) (j := x3) (b := b1) (off := o1) (n := n1) (c := c1) rfl Tryz.underlying145 Tryz.sizeOf127 h1 h2 ?_)
    obtain ⟨x4, hx, h⟩ := h
    refine qq (qap (v := .int .u64 x4) rfl Tryz.isAgg127 hx ?_)
    obtain ⟨h1, h⟩ := h
    refine qq (qax (k := .u64) (x := x2) (y := x4) rfl h1 ?_)
    refine qbr (qu (qz (qx (qbr (qz ?_)))))
    exact ⟨(((x2.tmod x4) != 0), (IntKind.i64.wrap (x3 + 1))), qaa, h.1, h.2⟩
   ·intro hb; refine qbs 20 (e := q1) (b := false) hb ?_
    replace h := h.2 (hb)
    refine qbr (qu (qz (qx (qbr (qz ?_)))))
    exact ⟨(false, (IntKind.i64.wrap (x3 + 1))), qaa, h.1, h.2⟩
  ·replace h := h.2 (of_decide_eq_false hb)
   refine wp_exit (qr (qr (block_exit_eq (qz (wp_seq (qx (qbr (qz (wp_cond_split (t := q1) (by kernel_rfl) (fun hb => ?_) (fun hb => ?_))))))))))
   ·replace h := h.1 (hb)
    refine qx (qbt 2 (qq (qag (cs := ([.int .u64 x2] : List Value)) rfl Tryz.underlying145 Tryz.sizeOf127 Tryz.zeroValue127 (by kernel_rfl) (by decide) (by decide) ?_)))
    intro b2 w3 e1 e2; replace h := h b2 w3 e1 e2
    obtain ⟨l1, l2, h1, h2, h3, h4, h5, h6, h7, h⟩ := h
    refine qq (qad (A := A1) (n := n1) (c := c1) (B := (some ⟨b2, 0, none⟩)) (m := 1) (c2 := 1) (olds := l1) (news := l2) rfl Tryz.underlying145 Tryz.underlying145 Tryz.typeInfo127 rfl (by decide) h1 h2 h3 h4 h5 h6 h7 ?_)
    intro A2 c2 w4 e1; replace h := h A2 c2 w4 e1
    refine qbr (qu (qz (qx (qbr (qz ?_)))))
    exact ⟨(A2, (n1 + 1), c2, (IntKind.u64.wrap (x2 + 1))), qaa, h.1, h.2⟩
   ·replace h := h.2 (hb)
    refine wp_skip (qu (qz (qx (qbr (qz ?_)))))
    exact ⟨(A1, n1, c1, (IntKind.u64.wrap (x2 + 1))), qaa, h.1, h.2⟩
 ·replace h := h.2 (of_decide_eq_false hb)
  refine wp_exit (qr (qr (block_exit_eq (qz (wp_seq (qx (qbr (qz (wp_ret ?_)))))))))
  exact qbh (v := .slice A1 n1 c1) h
def S_81 (x1 : Int) (w : World) (Q : Value → World → Prop) : Prop :=
 ∃ (I1 : Int → Int → World → Prop) (μ1 : Int → Int → World → Nat), I1 0 34 w ∧
 ∀ x2 x3 w1, I1 x2 x3 w1 →
 (x3 ≥ 0 →
 0 ≤ x3 ∧
 Ret Tryz.prog 100 #[.int .u64 (IntKind.u64.wrap (x2 + (iShl .u64 1 x3))), .int .u64 (IntKind.u64.wrap (x2 + (iShl .u64 1 x3)))] w1 fun r1 w2 => ∃ x4 x5, r1 = .tuple #[.int .u64 x4, .int .u64 x5] ∧
 Ret Tryz.prog 100 #[.int .u64 x5, .int .u64 (IntKind.u64.wrap (x2 + (iShl .u64 1 x3)))] w2 fun r2 w3 => ∃ x6 x7, r2 = .tuple #[.int .u64 x6, .int .u64 x7] ∧
 Ret Tryz.prog 100 #[.int .u64 x4, .int .u64 (IntKind.u64.wrap (x2 + (iShl .u64 1 x3)))] w3 fun r3 w4 => ∃ x8 x9, r3 = .tuple #[.int .u64 x8, .int .u64 x9] ∧
 ∃ J1 : Int → World → Prop, (∀ x11 w5, J1 x11 w5 →
 (x11 = 0 →
 ((IntKind.u64.wrap (x6 + x9)) < (IntKind.u64.wrap (x1 * 4294967296)) →
 I1 (IntKind.u64.wrap (x2 + (iShl .u64 1 x3))) (IntKind.i64.wrap (x3 - 1)) w5 ∧ μ1 (IntKind.u64.wrap (x2 + (iShl .u64 1 x3))) (IntKind.i64.wrap (x3 - 1)) w5 < μ1 x2 x3 w1) ∧
 (¬ (IntKind.u64.wrap (x6 + x9)) < (IntKind.u64.wrap (x1 * 4294967296)) →
 ((IntKind.u64.wrap (x6 + x9)) = (IntKind.u64.wrap (x1 * 4294967296)) →
 (x7 = 0 →
 I1 (IntKind.u64.wrap (x2 + (iShl .u64 1 x3))) (IntKind.i64.wrap (x3 - 1)) w5 ∧ μ1 (IntKind.u64.wrap (x2 + (iShl .u64 1 x3))) (IntKind.i64.wrap (x3 - 1)) w5 < μ1 x2 x3 w1) ∧
 (x7 ≠ 0 →
 I1 x2 (IntKind.i64.wrap (x3 - 1)) w5 ∧ μ1 x2 (IntKind.i64.wrap (x3 - 1)) w5 < μ1 x2 x3 w1)) ∧
 ((IntKind.u64.wrap (x6 + x9)) ≠ (IntKind.u64.wrap (x1 * 4294967296)) →
 I1 x2 (IntKind.i64.wrap (x3 - 1)) w5 ∧ μ1 x2 (IntKind.i64.wrap (x3 - 1)) w5 < μ1 x2 x3 w1))) ∧
 (x11 ≠ 0 →
 I1 x2 (IntKind.i64.wrap (x3 - 1)) w5 ∧ μ1 x2 (IntKind.i64.wrap (x3 - 1)) w5 < μ1 x2 x3 w1)) ∧
 ((IntKind.u64.wrap (x6 + x9)) < x6 →
 J1 (IntKind.u64.wrap (x8 + 1)) w4) ∧
 (¬ (IntKind.u64.wrap (x6 + x9)) < x6 →
 J1 x8 w4)) ∧
 (¬ x3 ≥ 0 →
 Q (.int .u32 (IntKind.u32.wrap (x2.tmod 4294967296))) w1)
theorem L_81 (x1 : Int) (w : World) (Q : Value → World → Prop) (h : S_81 x1 w Q) : Ret Tryz.prog 81 #[.int .u64 x1] w Q := by
 unfold S_81 at h
 refine ret_of_wp Tryz.func81 rfl (wp_seq (qx (qbr (qz (wp_seq (qx (qbr (qz (wp_seq (wp_seq (qx (qbr (qz (wp_block ?_))))))))))))))
 obtain ⟨I1, μ1, hI1, hB1⟩ := h
 refine wp_loop_st (σ := Int × Int) (fun s a => ∃ u1 : Nat → Value, a = ⟨#[.int .u64 x1, undef, .int .u32 0, .int .u64 s.1, .int .i64 s.2, u1 5, u1 6, u1 7, u1 8, u1 9, u1 10, u1 11, u1 12, u1 13, u1 14, u1 15, u1 16, u1 17, u1 18, u1 19, u1 20, u1 21, u1 22, u1 23, u1 24, u1 25, u1 26, u1 27, u1 28, u1 29, u1 30, u1 31, u1 32, u1 33, u1 34, u1 35, u1 36, u1 37, u1 38, u1 39, u1 40, u1 41, u1 42, u1 43, u1 44, u1 45, u1 46, u1 47, u1 48, u1 49, u1 50, u1 51, u1 52, u1 53, u1 54, u1 55, u1 56, u1 57, u1 58, u1 59, u1 60, u1 61, u1 62, u1 63, u1 64, u1 65, u1 66, u1 67, u1 68, undef, undef, undef], []⟩) (fun s w => I1 s.1 s.2 w) (fun s w => μ1 s.1 s.2 w) (0, 34) (qaa) hI1 ?_
 rintro ⟨x2, x3⟩ a w1 ⟨u1, rfl⟩ hI1
 have h := hB1 x2 x3 w1 hI1
 refine wp_seq (wp_seq (qx (qbr (qz (wp_cond_split (t := (decide (x3 ≥ 0))) (by kernel_rfl) (fun hb => ?_) (fun hb => ?_))))))
 ·replace h := h.1 (of_decide_eq_true hb)
  refine wp_skip (qz (wp_seq (wp_block (wp_seq (qx (qbt 2 ?_))))))
  obtain ⟨h1, h⟩ := h
  refine qq (qay (k := .u64) (k2 := .i64) (x := 1) (y := x3) rfl h1 ?_)
  refine qbr (qz (wp_seq (qx (qbt 2 (qq (qai (args := #[.int .u64 (IntKind.u64.wrap (x2 + (iShl .u64 1 x3))), .int .u64 (IntKind.u64.wrap (x2 + (iShl .u64 1 x3)))]) rfl Tryz.call100 (Ret.mono h ?_)))))))
  clear h; rintro r1 w2 ⟨x4, x5, rfl, h⟩
  refine qbr (qz (wp_seq (qx (qbt 2 (qq (qai (args := #[.int .u64 x5, .int .u64 (IntKind.u64.wrap (x2 + (iShl .u64 1 x3)))]) rfl Tryz.call100 (Ret.mono h ?_)))))))
  clear h; rintro r2 w3 ⟨x6, x7, rfl, h⟩
  refine qbr (qz (wp_seq (qx (qbt 2 (qq (qai (args := #[.int .u64 x4, .int .u64 (IntKind.u64.wrap (x2 + (iShl .u64 1 x3)))]) rfl Tryz.call100 (Ret.mono h ?_)))))))
  clear h; rintro r3 w4 ⟨x8, x9, rfl, h⟩
  refine qbr (qz (wp_seq (qx (qbr (qz (wp_seq (qx (qbr (qz ?_)))))))))
  obtain ⟨J1, hJ1, h⟩ := h
  refine wp_seq_join (σ := Int) (fun s vj1 => ⟨#[.int .u64 x1, undef, .int .u32 0, .int .u64 x2, .int .i64 x3, .int .u64 (IntKind.u64.wrap (x2 + (iShl .u64 1 x3))), .int .u64 x4, .int .u64 x5, .int .u64 x6, .int .u64 x7, .int .u64 x8, .int .u64 x9, .int .u64 (IntKind.u64.wrap (x6 + x9)), .int .u64 s, u1 14, .int .i64 x3, .bool (decide (x3 ≥ 0)), u1 17, u1 18, .int .u64 x2, .int .i64 x3, .int .u64 (iShl .u64 1 x3), .int .u64 (IntKind.u64.wrap (x2 + (iShl .u64 1 x3))), .tuple #[.int .u64 x4, .int .u64 x5], .int .u64 (IntKind.u64.wrap (x2 + (iShl .u64 1 x3))), .int .u64 (IntKind.u64.wrap (x2 + (iShl .u64 1 x3))), .tuple #[.int .u64 x4, .int .u64 x5], .int .u64 x4, .int .u64 x5, .tuple #[.int .u64 x6, .int .u64 x7], .int .u64 x5, .int .u64 (IntKind.u64.wrap (x2 + (iShl .u64 1 x3))), .tuple #[.int .u64 x6, .int .u64 x7], .int .u64 x6, .int .u64 x7, .tuple #[.int .u64 x8, .int .u64 x9], .int .u64 x4, .int .u64 (IntKind.u64.wrap (x2 + (iShl .u64 1 x3))), .tuple #[.int .u64 x8, .int .u64 x9], .int .u64 x8, .int .u64 x9, .int .u64 x6, .int .u64 x9, .int .u64 (IntKind.u64.wrap (x6 + x9)), .int .u64 x8, .int .u64 (IntKind.u64.wrap (x6 + x9)), .int .u64 x6, .bool (decide ((IntKind.u64.wrap (x6 + x9)) < x6)), vj1 48, vj1 49, u1 50, u1 51, u1 52, u1 53, u1 54, u1 55, u1 56, u1 57, u1 58, u1 59, u1 60, u1 61, u1 62, u1 63, u1 64, u1 65, u1 66, u1 67, u1 68, undef, undef, undef], []⟩) (fun s w => J1 s w) ?_ ?_
  ·clear h; rintro x11 vj1 w5 hj
   have h := hJ1 x11 w5 hj
   refine wp_seq (qx (qbr (qz (wp_seq (qx (qbt 3 (wl_split (e := (x11 == 0)) ?_ ?_)))))))
   ·intro hb; refine qbs 54 (e := (x11 == 0)) (b := true) hb ?_
    replace h := h.1 (eq_of_beq hb)
    refine qbt 4 (wl_split (e := (decide ((IntKind.u64.wrap (x6 + x9)) < (IntKind.u64.wrap (x1 * 4294967296))))) ?_ ?_)
    ·intro hb; refine qbs 58 (e := (decide ((IntKind.u64.wrap (x6 + x9)) < (IntKind.u64.wrap (x1 * 4294967296))))) (b := true) hb ?_
     replace h := h.1 (of_decide_eq_true hb)
     refine qbr (qz (wp_cond_true (by kernel_rfl) (qx (qbr (qu (qz (qx (qbr (qz ?_)))))))))
     exact ⟨((IntKind.u64.wrap (x2 + (iShl .u64 1 x3))), (IntKind.i64.wrap (x3 - 1))), qaa, h.1, h.2⟩
    ·intro hb; refine qbs 58 (e := (decide ((IntKind.u64.wrap (x6 + x9)) < (IntKind.u64.wrap (x1 * 4294967296))))) (b := false) hb ?_
     replace h := h.2 (of_decide_eq_false hb)
     refine qbt 4 (wl_split (e := ((IntKind.u64.wrap (x6 + x9)) == (IntKind.u64.wrap (x1 * 4294967296)))) ?_ ?_)
     ·intro hb; refine qbs 62 (e := ((IntKind.u64.wrap (x6 + x9)) == (IntKind.u64.wrap (x1 * 4294967296)))) (b := true) hb ?_
      replace h := h.1 (eq_of_beq hb)
      refine qbr (qz (wp_cond_split (t := (x7 == 0)) (by kernel_rfl) (fun hb => ?_) (fun hb => ?_)))
      ·replace h := h.1 (eq_of_beq hb)
       refine qx (qbr (qu (qz (qx (qbr (qz ?_))))))
       exact ⟨((IntKind.u64.wrap (x2 + (iShl .u64 1 x3))), (IntKind.i64.wrap (x3 - 1))), qaa, h.1, h.2⟩
      ·replace h := h.2 (ne_of_beq_false hb)
       refine wp_skip (qu (qz (qx (qbr (qz ?_)))))
       exact ⟨(x2, (IntKind.i64.wrap (x3 - 1))), qaa, h.1, h.2⟩
     ·intro hb; refine qbs 62 (e := ((IntKind.u64.wrap (x6 + x9)) == (IntKind.u64.wrap (x1 * 4294967296)))) (b := false) hb ?_
      replace h := h.2 (ne_of_beq_false hb)
      refine qbr (qz (wp_cond_false (by kernel_rfl) (wp_skip (qu (qz (qx (qbr (qz ?_))))))))
      exact ⟨(x2, (IntKind.i64.wrap (x3 - 1))), qaa, h.1, h.2⟩
   ·intro hb; refine qbs 54 (e := (x11 == 0)) (b := false) hb ?_
    replace h := h.2 (ne_of_beq_false hb)
    refine qbr (qz (wp_cond_false (by kernel_rfl) (wp_skip (qu (qz (qx (qbr (qz ?_))))))))
    exact ⟨(x2, (IntKind.i64.wrap (x3 - 1))), qaa, h.1, h.2⟩
  ·clear hJ1
   refine wp_seq (qx (qbr (qz (wp_cond_split (t := (decide ((IntKind.u64.wrap (x6 + x9)) < x6))) (by kernel_rfl) (fun hb => ?_) (fun hb => ?_)))))
   ·replace h := h.1 (of_decide_eq_true hb)
    refine qx (qbr (qz ?_))
    exact ⟨((IntKind.u64.wrap (x8 + 1))), h, qaa⟩
   ·replace h := h.2 (of_decide_eq_false hb)
    refine wp_skip (qz ?_)
    exact ⟨(x8), h, qaa⟩
 ·replace h := h.2 (of_decide_eq_false hb)
  refine wp_exit (qr (qr (block_exit_eq (qz (wp_seq (qx (qbr (qz (wp_ret ?_)))))))))
  exact qbh (v := .int .u32 (IntKind.u32.wrap (x2.tmod 4294967296))) h
def S_82 (x1 : Int) (w : World) (Q : Value → World → Prop) : Prop :=
 ∃ (I1 : Int → Int → World → Prop) (μ1 : Int → Int → World → Nat), I1 0 35 w ∧
 ∀ x2 x3 w1, I1 x2 x3 w1 →
 (x3 ≥ 0 →
 0 ≤ x3 ∧
 Ret Tryz.prog 100 #[.int .u64 (IntKind.u64.wrap (x2 + (iShl .u64 1 x3))), .int .u64 (IntKind.u64.wrap (x2 + (iShl .u64 1 x3)))] w1 fun r1 w2 => ∃ x4 x5, r1 = .tuple #[.int .u64 x4, .int .u64 x5] ∧
 (x4 < x1 →
 I1 (IntKind.u64.wrap (x2 + (iShl .u64 1 x3))) (IntKind.i64.wrap (x3 - 1)) w2 ∧ μ1 (IntKind.u64.wrap (x2 + (iShl .u64 1 x3))) (IntKind.i64.wrap (x3 - 1)) w2 < μ1 x2 x3 w1) ∧
 (¬ x4 < x1 →
 (x4 = x1 →
 (x5 = 0 →
 I1 (IntKind.u64.wrap (x2 + (iShl .u64 1 x3))) (IntKind.i64.wrap (x3 - 1)) w2 ∧ μ1 (IntKind.u64.wrap (x2 + (iShl .u64 1 x3))) (IntKind.i64.wrap (x3 - 1)) w2 < μ1 x2 x3 w1) ∧
 (x5 ≠ 0 →
 I1 x2 (IntKind.i64.wrap (x3 - 1)) w2 ∧ μ1 x2 (IntKind.i64.wrap (x3 - 1)) w2 < μ1 x2 x3 w1)) ∧
 (x4 ≠ x1 →
 I1 x2 (IntKind.i64.wrap (x3 - 1)) w2 ∧ μ1 x2 (IntKind.i64.wrap (x3 - 1)) w2 < μ1 x2 x3 w1))) ∧
 (¬ x3 ≥ 0 →
 Q (.int .u32 (IntKind.u32.wrap (x2.tmod 4294967296))) w1)
theorem L_82 (x1 : Int) (w : World) (Q : Value → World → Prop) (h : S_82 x1 w Q) : Ret Tryz.prog 82 #[.int .u64 x1] w Q := by
 unfold S_82 at h
 refine ret_of_wp Tryz.func82 rfl (wp_seq (qx (qbr (qz (wp_seq (qx (qbr (qz (wp_seq (wp_seq (qx (qbr (qz (wp_block ?_))))))))))))))
 obtain ⟨I1, μ1, hI1, hB1⟩ := h
 refine wp_loop_st (σ := Int × Int) (fun s a => ∃ u1 : Nat → Value, a = ⟨#[.int .u64 x1, undef, .int .u32 0, .int .u64 s.1, .int .i64 s.2, u1 5, u1 6, u1 7, u1 8, u1 9, u1 10, u1 11, u1 12, u1 13, u1 14, u1 15, u1 16, u1 17, u1 18, u1 19, u1 20, u1 21, u1 22, u1 23, u1 24, u1 25, u1 26, u1 27, u1 28, u1 29, u1 30, u1 31, u1 32, u1 33, u1 34, undef, undef, undef], []⟩) (fun s w => I1 s.1 s.2 w) (fun s w => μ1 s.1 s.2 w) (0, 35) (qaa) hI1 ?_
 rintro ⟨x2, x3⟩ a w1 ⟨u1, rfl⟩ hI1
 have h := hB1 x2 x3 w1 hI1
 refine wp_seq (wp_seq (qx (qbr (qz (wp_cond_split (t := (decide (x3 ≥ 0))) (by kernel_rfl) (fun hb => ?_) (fun hb => ?_))))))
 ·replace h := h.1 (of_decide_eq_true hb)
  refine wp_skip (qz (wp_seq (wp_block (wp_seq (qx (qbt 2 ?_))))))
  obtain ⟨h1, h⟩ := h
  refine qq (qay (k := .u64) (k2 := .i64) (x := 1) (y := x3) rfl h1 ?_)
  refine qbr (qz (wp_seq (qx (qbt 2 (qq (qai (args := #[.int .u64 (IntKind.u64.wrap (x2 + (iShl .u64 1 x3))), .int .u64 (IntKind.u64.wrap (x2 + (iShl .u64 1 x3)))]) rfl Tryz.call100 (Ret.mono h ?_)))))))
  clear h; rintro r1 w2 ⟨x4, x5, rfl, h⟩
  refine qbr (qz (wp_seq (qx (qbt 4 (wl_split (e := (decide (x4 < x1))) ?_ ?_)))))
  ·intro hb; refine qbs 25 (e := (decide (x4 < x1))) (b := true) hb ?_
   replace h := h.1 (of_decide_eq_true hb)
   refine qbr (qz (wp_cond_true (by kernel_rfl) (qx (qbr (qu (qz (qx (qbr (qz ?_)))))))))
   exact ⟨((IntKind.u64.wrap (x2 + (iShl .u64 1 x3))), (IntKind.i64.wrap (x3 - 1))), qaa, h.1, h.2⟩
  ·intro hb; refine qbs 25 (e := (decide (x4 < x1))) (b := false) hb ?_
   replace h := h.2 (of_decide_eq_false hb)
   refine qbt 4 (wl_split (e := (x4 == x1)) ?_ ?_)
   ·intro hb; refine qbs 29 (e := (x4 == x1)) (b := true) hb ?_
    replace h := h.1 (eq_of_beq hb)
    refine qbr (qz (wp_cond_split (t := (x5 == 0)) (by kernel_rfl) (fun hb => ?_) (fun hb => ?_)))
    ·replace h := h.1 (eq_of_beq hb)
     refine qx (qbr (qu (qz (qx (qbr (qz ?_))))))
     exact ⟨((IntKind.u64.wrap (x2 + (iShl .u64 1 x3))), (IntKind.i64.wrap (x3 - 1))), qaa, h.1, h.2⟩
    ·replace h := h.2 (ne_of_beq_false hb)
     refine wp_skip (qu (qz (qx (qbr (qz ?_)))))
     exact ⟨(x2, (IntKind.i64.wrap (x3 - 1))), qaa, h.1, h.2⟩
   ·intro hb; refine qbs 29 (e := (x4 == x1)) (b := false) hb ?_
    replace h := h.2 (ne_of_beq_false hb)
    refine qbr (qz (wp_cond_false (by kernel_rfl) (wp_skip (qu (qz (qx (qbr (qz ?_))))))))
    exact ⟨(x2, (IntKind.i64.wrap (x3 - 1))), qaa, h.1, h.2⟩
 ·replace h := h.2 (of_decide_eq_false hb)
  refine wp_exit (qr (qr (block_exit_eq (qz (wp_seq (qx (qbr (qz (wp_ret ?_)))))))))
  exact qbh (v := .int .u32 (IntKind.u32.wrap (x2.tmod 4294967296))) h
def S_83 (x1 x2 : Int) (w : World) (Q : Value → World → Prop) : Prop :=
 ∃ (I1 : Int → Int → World → Prop) (μ1 : Int → Int → World → Nat), I1 x1 0 w ∧
 ∀ x3 x4 w1, I1 x3 x4 w1 →
 (x4 < ((IntKind.i64.wrap ((x2.tmod 32) + 32)).tmod 32) →
 I1 (IntKind.u32.wrap ((IntKind.u32.wrap (x3.tdiv 2)) + (IntKind.u32.wrap ((x3.tmod 2) * 2147483648)))) (IntKind.i64.wrap (x4 + 1)) w1 ∧ μ1 (IntKind.u32.wrap ((IntKind.u32.wrap (x3.tdiv 2)) + (IntKind.u32.wrap ((x3.tmod 2) * 2147483648)))) (IntKind.i64.wrap (x4 + 1)) w1 < μ1 x3 x4 w1) ∧
 (¬ x4 < ((IntKind.i64.wrap ((x2.tmod 32) + 32)).tmod 32) →
 Q (.int .u32 x3) w1)
theorem L_83 (x1 x2 : Int) (w : World) (Q : Value → World → Prop) (h : S_83 x1 x2 w Q) : Ret Tryz.prog 83 #[.int .u32 x1, .int .i64 x2] w Q := by
 unfold S_83 at h
 refine ret_of_wp Tryz.func83 rfl (wp_seq (qx (qbr (qz (wp_seq (qx (qbr (qz (wp_seq (wp_seq (qx (qbr (qz (wp_block ?_))))))))))))))
 obtain ⟨I1, μ1, hI1, hB1⟩ := h
 refine wp_loop_st (σ := Int × Int) (fun s a => ∃ u1 : Nat → Value, a = ⟨#[.int .u32 s.1, .int .i64 ((IntKind.i64.wrap ((x2.tmod 32) + 32)).tmod 32), undef, undef, .int .u32 0, .int .i64 s.2, .int .i64 x2, .int .i64 (x2.tmod 32), .int .i64 (IntKind.i64.wrap ((x2.tmod 32) + 32)), .int .i64 ((IntKind.i64.wrap ((x2.tmod 32) + 32)).tmod 32), u1 10, u1 11, u1 12, u1 13, u1 14, u1 15, u1 16, u1 17, u1 18, u1 19, u1 20, undef], []⟩) (fun s w => I1 s.1 s.2 w) (fun s w => μ1 s.1 s.2 w) (x1, 0) (qaa) hI1 ?_
 rintro ⟨x3, x4⟩ a w1 ⟨u1, rfl⟩ hI1
 have h := hB1 x3 x4 w1 hI1
 refine wp_seq (wp_seq (qx (qbr (qz (wp_cond_split (t := (decide (x4 < ((IntKind.i64.wrap ((x2.tmod 32) + 32)).tmod 32)))) (by kernel_rfl) (fun hb => ?_) (fun hb => ?_))))))
 ·replace h := h.1 (of_decide_eq_true hb)
  refine wp_skip (qz (wp_seq (wp_block (qx (qbr (qu (qz (qx (qbr (qz ?_))))))))))
  exact ⟨((IntKind.u32.wrap ((IntKind.u32.wrap (x3.tdiv 2)) + (IntKind.u32.wrap ((x3.tmod 2) * 2147483648)))), (IntKind.i64.wrap (x4 + 1))), qaa, h.1, h.2⟩
 ·replace h := h.2 (of_decide_eq_false hb)
  refine wp_exit (qr (qr (block_exit_eq (qz (wp_seq (qx (qbr (qz (wp_ret ?_)))))))))
  exact qbh (v := .int .u32 x3) h
def S_96  (w : World) (Q : Value → World → Prop) : Prop :=
 ∀ b1 w1, b1 = w.heap.size → w1 = w.alloc (.cells ((List.replicate 8 (.int .u32 0 : Value)) ++ ([.slice none 0 0, .int .u64 0] : List Value)).toArray 164) →
 w1.there b1 0 10 ∧
 ∀ w2, w2 = w1.setCells b1 0 ((List.replicate 8 (.int .u32 0 : Value)) ++ ([.slice none 0 0, .int .u64 0] : List Value)) →
 ∃ (d1 : List Value) (A1 : Option Addr) (n1 : Nat) (c1 : Nat) (x1 : Int), d1.length = 8 ∧ w2.rangeAt b1 0 (d1 ++ ([.slice A1 n1 c1, .int .u64 x1] : List Value)) ∧ Q (.agg (d1 ++ ([.slice A1 n1 c1, .int .u64 x1] : List Value)).toArray) w2
theorem L_96  (w : World) (Q : Value → World → Prop) (h : S_96  w Q) : Ret Tryz.prog 96 #[] w Q := by
 unfold S_96 at h
 refine ret_of_wp Tryz.func96 rfl (wp_seq (qx (qq (qac rfl Tryz.zeroValue164 ?_))))
 intro b1 w1 e1 e2; replace h := h b1 w1 e1 e2
 refine qo (qz (wp_seq (qx (qbt 1 ?_))))
 obtain ⟨hw, h⟩ := h
 refine qq (qbd (cs := ((List.replicate 8 (.int .u32 0 : Value)) ++ ([.slice none 0 0, .int .u64 0] : List Value))) rfl Tryz.sizeOf164 rfl (qab) hw ?_)
 intro w2 e1; replace h := h w2 e1
 refine qo (qz (wp_ret ?_))
 obtain ⟨d1, A1, n1, c1, x1, hl0_0, hx0, h⟩ := h
 exact qbi (vs := [.agg (d1 ++ ([.slice A1 n1 c1, .int .u64 x1] : List Value)).toArray]) (v := .agg (d1 ++ ([.slice A1 n1 c1, .int .u64 x1] : List Value)).toArray) Tryz.results96 ⟨⟨b1, 0, by kernel_rfl, run_loadN Tryz.isAgg164 Tryz.sizeOf164 (by simp [hl0_0]) hx0⟩, trivial⟩ h
def S_97 (d1 : List Value) (A1 : Option Addr) (n1 c1 : Nat) (x1 : Int) (A2 : Option Addr) (n2 c2 : Nat) (w : World) (Q : Value → World → Prop) : Prop :=
 ∀ b1 w1, b1 = w.heap.size → w1 = w.alloc (.cells (d1 ++ ([.slice A1 n1 c1, .int .u64 x1] : List Value)).toArray 164) →
 ∀ b2 w2, b2 = w1.heap.size → w2 = w1.alloc (.cells ((List.replicate 8 (.int .u32 0 : Value)) ++ ([.slice none 0 0, .int .u64 0] : List Value)).toArray 164) →
 ∃ J1 : World → Prop, (∀  (w3 : World), J1 w3 →
 ∃ x2, w3.cell? ⟨b1, 9, none⟩ = some (.int .u64 x2) ∧
 (w3.cell? ⟨b1, 9, none⟩).isSome = true ∧ w3.frozen? ⟨b1, 9, none⟩ = false ∧
 ∀ w4, w4 = w3.setCell ⟨b1, 9, none⟩ (.int .u64 (IntKind.u64.wrap (x2 + (IntKind.u64.wrap (n2 : Int))))) →
 ∃ A3 n3 c3, w4.cell? ⟨b1, 8, none⟩ = some (.slice A3 n3 c3) ∧
 ∃ l1 l2 : List Value, (0 + n3) * 1 ≤ 140737488355328 ∧ l1.length = 0 * 1 ∧ RdS w4 none l1 ∧ l2.length = n3 * 1 ∧ RdS w4 A3 l2 ∧ One l2 ∧ (0 + n3 ≤ 0 → Room w4 none (0 * 1) (n3 * 1)) ∧
 ∀ A4 c4 w5, Appended w4 5 1 #[.int .u8 0] none 0 0 n3 l1 l2 A4 c4 w5 →
 ∃ l3 l4 : List Value, ((0 + n3) + n2) * 1 ≤ 140737488355328 ∧ l3.length = (0 + n3) * 1 ∧ RdS w5 A4 l3 ∧ l4.length = n2 * 1 ∧ RdS w5 A2 l4 ∧ One l4 ∧ ((0 + n3) + n2 ≤ c4 → Room w5 A4 ((0 + n3) * 1) (n2 * 1)) ∧
 ∀ A5 c5 w6, Appended w5 5 1 #[.int .u8 0] A4 (0 + n3) c4 n2 l3 l4 A5 c5 w6 →
 ∃ (I1 : (Option Addr) → Nat → Nat → World → Prop) (μ1 : (Option Addr) → Nat → Nat → World → Nat), I1 A5 ((0 + n3) + n2) c5 w6 ∧
 ∀ A6 n4 c6 w7, I1 A6 n4 c6 w7 →
 ((n4 : Int) ≥ 64 →
 ∀ w8, w8 = w7.drew →
 ∃ (d2 : List Value), d2.length = 8 ∧ w7.rangeAt b1 0 d2 ∧
 (0 : Int) ≤ 0 ∧ (0 : Int) ≤ 64 ∧ (64 : Int) ≤ (c6 : Int) ∧ ((c6 : Int) : Int) ≤ (c6 : Int) ∧
 ∀ A7, A7 = cutA A6 0 c6 1 →
 Ret Tryz.prog 111 #[.agg d2.toArray, .slice A7 (64 - 0) (c6 - 0)] w8 fun r1 w9 => ∃ (d3 : List Value), r1 = .agg d3.toArray ∧ d3.length = 8 ∧
 d3.length = 8 ∧ One d3 ∧ w9.there b1 0 8 ∧
 ∀ w10, w10 = w9.setCells b1 0 d3 →
 (0 : Int) ≤ 64 ∧ (64 : Int) ≤ (n4 : Int) ∧ ((n4 : Int) : Int) ≤ (c6 : Int) ∧ ((c6 : Int) : Int) ≤ (c6 : Int) ∧
 ∀ A8, A8 = cutA A6 64 c6 1 →
 I1 A8 (n4 - 64) (c6 - 64) w10 ∧ μ1 A8 (n4 - 64) (c6 - 64) w10 < μ1 A6 n4 c6 w7) ∧
 (¬ (n4 : Int) ≥ 64 →
 (w7.cell? ⟨b1, 8, none⟩).isSome = true ∧ w7.frozen? ⟨b1, 8, none⟩ = false ∧
 ∀ w11, w11 = w7.setCell ⟨b1, 8, none⟩ (.slice A6 n4 c6) →
 ∃ (d4 : List Value) (A9 : Option Addr) (n5 : Nat) (c7 : Nat) (x3 : Int), d4.length = 8 ∧ w11.rangeAt b1 0 (d4 ++ ([.slice A9 n5 c7, .int .u64 x3] : List Value)) ∧
 (d4 ++ ([.slice A9 n5 c7, .int .u64 x3] : List Value)).length = 10 ∧ One (d4 ++ ([.slice A9 n5 c7, .int .u64 x3] : List Value)) ∧ w11.there b2 0 10 ∧
 ∀ w12, w12 = w11.setCells b2 0 (d4 ++ ([.slice A9 n5 c7, .int .u64 x3] : List Value)) →
 ∃ (d5 : List Value) (A10 : Option Addr) (n6 : Nat) (c8 : Nat) (x4 : Int), d5.length = 8 ∧ w12.rangeAt b2 0 (d5 ++ ([.slice A10 n6 c8, .int .u64 x4] : List Value)) ∧ Q (.agg (d5 ++ ([.slice A10 n6 c8, .int .u64 x4] : List Value)).toArray) w12)) ∧
 ∃ x5, w2.cell? ⟨b1, 9, none⟩ = some (.int .u64 x5) ∧
 (x5 < 64 →
 ∃ A11 n7 c9, w2.cell? ⟨b1, 8, none⟩ = some (.slice A11 n7 c9) ∧
 ∃ x6, w2.cell? ⟨b1, 9, none⟩ = some (.int .u64 x6) ∧
 ((n7 : Int) = (IntKind.i64.wrap x6) →
 Ret Tryz.prog 110 #[] w2 fun r2 w13 => ∃ (d6 : List Value), r2 = .agg d6.toArray ∧ d6.length = 8 ∧
 d6.length = 8 ∧ One d6 ∧ w13.there b1 0 8 ∧
 ∀ w14, w14 = w13.setCells b1 0 d6 →
 J1 w14) ∧
 ((n7 : Int) ≠ (IntKind.i64.wrap x6) →
 J1 w2)) ∧
 (¬ x5 < 64 →
 J1 w2)
theorem L_97 (d1 : List Value) (A1 : Option Addr) (n1 c1 : Nat) (x1 : Int) (A2 : Option Addr) (n2 c2 : Nat) (w : World) (Q : Value → World → Prop) (hp0 : d1.length = 8) (h : S_97 d1 A1 n1 c1 x1 A2 n2 c2 w Q) : Ret Tryz.prog 97 #[.agg (d1 ++ ([.slice A1 n1 c1, .int .u64 x1] : List Value)).toArray, .slice A2 n2 c2] w Q := by
 unfold S_97 at h
 refine ret_of_wp Tryz.func97 rfl (wp_seq (qx (qq (qaf (v := .agg (d1 ++ ([.slice A1 n1 c1, .int .u64 x1] : List Value)).toArray) rfl ?_))))
 intro b1 w1 e1 e2; replace h := h b1 w1 e1 e2
 refine qq (qac rfl Tryz.zeroValue164 ?_)
 intro b2 w2 e1 e2; replace h := h b2 w2 e1 e2
 refine qo (qz ?_)
 obtain ⟨J1, hJ1, h⟩ := h
 refine wp_seq_join (σ := Unit) (fun s vj1 => ⟨#[.agg (d1 ++ ([.slice A1 n1 c1, .int .u64 x1] : List Value)).toArray, .slice A2 n2 c2, .pointer (some ⟨b1, 0, none⟩), undef, .pointer (some ⟨b2, 0, none⟩), undef, .pointer (some ⟨b1, 9, none⟩), vj1 7, vj1 8, vj1 9, vj1 10, vj1 11, vj1 12, vj1 13, vj1 14, vj1 15, vj1 16, vj1 17, vj1 18, vj1 19, undef, undef, undef, undef, undef, undef, undef, undef, undef, undef, undef, undef, undef, undef, undef, undef, undef, undef, undef, undef, undef, undef, undef, undef, undef, undef], []⟩) (fun s w => J1 w) ?_ ?_
 ·clear h; rintro _ vj1 w3 hj
  have h := hJ1 w3 hj
  refine wp_seq (qx (qbt 1 ?_))
  obtain ⟨x2, hx, h⟩ := h
  refine qq (qap (v := .int .u64 x2) rfl Tryz.isAgg127 hx ?_)
  refine qbt 5 ?_
  obtain ⟨hc, hf, h⟩ := h
  refine qq (qbc (v := .int .u64 (IntKind.u64.wrap (x2 + (IntKind.u64.wrap (n2 : Int))))) rfl Tryz.sizeOf127 rfl hc hf ?_)
  intro w4 e1; replace h := h w4 e1
  refine qo (qz (wp_seq (qx (qbt 1 ?_))))
  obtain ⟨A3, n3, c3, hx, h⟩ := h
  refine qq (qap (v := .slice A3 n3 c3) rfl Tryz.isAgg62 hx ?_)
  obtain ⟨l1, l2, h1, h2, h3, h4, h5, h6, h7, h⟩ := h
  refine qq (qad (A := none) (n := 0) (c := 0) (B := A3) (m := n3) (c2 := c3) (olds := l1) (news := l2) rfl Tryz.underlying62 Tryz.underlying62 Tryz.typeInfo5 rfl (by decide) h1 h2 h3 h4 h5 h6 h7 ?_)
  intro A4 c4 w5 e1; replace h := h A4 c4 w5 e1
  refine qbt 1 ?_
  obtain ⟨l3, l4, h1, h2, h3, h4, h5, h6, h7, h⟩ := h
  refine qq (qad (A := A4) (n := (0 + n3)) (c := c4) (B := A2) (m := n2) (c2 := c2) (olds := l3) (news := l4) rfl Tryz.underlying62 Tryz.underlying62 Tryz.typeInfo5 rfl (by decide) h1 h2 h3 h4 h5 h6 h7 ?_)
  intro A5 c5 w6 e1; replace h := h A5 c5 w6 e1
  refine qbr (qz (wp_seq (wp_block ?_)))
  obtain ⟨I1, μ1, hI1, hB1⟩ := h
  refine wp_loop_st (σ := (Option Addr) × Nat × Nat) (fun s a => ∃ u1 : Nat → Value, a = ⟨#[.agg (d1 ++ ([.slice A1 n1 c1, .int .u64 x1] : List Value)).toArray, .slice A2 n2 c2, .pointer (some ⟨b1, 0, none⟩), undef, .pointer (some ⟨b2, 0, none⟩), .slice s.1 s.2.1 s.2.2, .pointer (some ⟨b1, 9, none⟩), vj1 7, vj1 8, vj1 9, vj1 10, vj1 11, vj1 12, vj1 13, vj1 14, vj1 15, vj1 16, vj1 17, vj1 18, vj1 19, .pointer (some ⟨b1, 9, none⟩), .int .u64 x2, .slice A2 n2 c2, .int .i64 (n2 : Int), .int .u64 (IntKind.u64.wrap (n2 : Int)), .int .u64 (IntKind.u64.wrap (x2 + (IntKind.u64.wrap (n2 : Int)))), .pointer (some ⟨b1, 9, none⟩), .pointer (some ⟨b1, 8, none⟩), .slice A3 n3 c3, .slice A4 (0 + n3) c4, .slice A2 n2 c2, .slice A5 ((0 + n3) + n2) c5, u1 32, u1 33, u1 34, u1 35, u1 36, u1 37, u1 38, u1 39, u1 40, u1 41, u1 42, undef, undef, undef], []⟩) (fun s w => I1 s.1 s.2.1 s.2.2 w) (fun s w => μ1 s.1 s.2.1 s.2.2 w) (A5, ((0 + n3) + n2), c5) (qaa) hI1 ?_
  rintro ⟨A6, n4, c6⟩ a w7 ⟨u1, rfl⟩ hI1
  have h := hB1 A6 n4 c6 w7 hI1
  refine wp_seq (wp_seq (qx (qbr (qz (wp_cond_split (t := (decide ((n4 : Int) ≥ 64))) (by kernel_rfl) (fun hb => ?_) (fun hb => ?_))))))
  ·replace h := h.1 (of_decide_eq_true hb)
   refine wp_skip (qz (wp_block (wp_seq (qbj (Keep w7) [4, 6] ?_))))
   intro w8 e1; have hK1 := keep_drew e1; replace h := h w8 e1
   refine qbo 0 rfl (qbz (v := .pointer (some ⟨b1, 0, none⟩))) ?_
   obtain ⟨d2, hl0, hx, h⟩ := h
   refine qbn 1 rfl (qbx (cs := d2) rfl Tryz.isAgg162 Tryz.sizeOf162 (by simp [hl0]) (fun _ hk => keep_range hk hx)) hK1 ?_
   refine qbo 2 rfl (qbz (v := .slice A6 n4 c6)) ?_
   obtain ⟨h1, h2, h3, h4, h⟩ := h
   obtain ⟨A7, e1⟩ : ∃ A : Option Addr, A = cutA A6 (0 : Int).toNat ((c6 : Int) : Int).toNat 1 := ⟨_, rfl⟩
   refine qbo 3 rfl (qcc e1 (A := A6) (n := n4) (c := c6) (lo := 0) (hi := 64) (mx := (c6 : Int)) rfl (.inl ⟨rfl, rfl⟩) (.inr ⟨_, .i64, rfl, by kernel_rfl⟩) (.inl ⟨rfl, rfl⟩) (by simp) Tryz.underlying62 Tryz.sizeOf5 h1 h2 h3 h4) ?_
   replace h := h A7 e1
   refine qbm 4 rfl (qai (args := #[.agg d2.toArray, .slice A7 (64 - 0) (c6 - 0)]) rfl Tryz.call111 (Ret.mono h ?_))
   clear h; rintro r1 w9 ⟨d3, rfl, hl0, h⟩
   refine ⟨fun hh => absurd hh (by decide), ?_⟩
   refine qbo 5 rfl (qbz (v := .pointer (some ⟨b1, 0, none⟩))) ?_
   obtain ⟨hl, h1, hw, h⟩ := h
   refine qbm 6 rfl (qbd (cs := d3) rfl Tryz.sizeOf162 hl h1 hw ?_)
   intro w10 e1; replace h := h w10 e1
   refine ⟨fun hh => absurd hh (by decide), ?_⟩
   refine qbk (qz (qx (qbt 1 ?_)))
   obtain ⟨h1, h2, h3, h4, h⟩ := h
   refine qq (qba (A := A6) (n := n4) (c := c6) (lo := 64) (hi := (n4 : Int)) (mx := (c6 : Int)) rfl (.inr ⟨_, .i64, rfl, by kernel_rfl⟩) (.inl ⟨rfl, rfl⟩) (.inl ⟨rfl, rfl⟩) (by simp) Tryz.underlying62 Tryz.sizeOf5 h1 h2 h3 h4 ?_)
   intro A8 e1; replace h := h A8 e1
   refine qbr (qu (qz ?_))
   exact ⟨(A8, (n4 - 64), (c6 - 64)), qaa, h.1, h.2⟩
  ·replace h := h.2 (of_decide_eq_false hb)
   refine wp_exit (qr (qr (block_exit_eq (qz (wp_seq (qx (qbt 2 ?_)))))))
   obtain ⟨hc, hf, h⟩ := h
   refine qq (qbc (v := .slice A6 n4 c6) rfl Tryz.sizeOf62 rfl hc hf ?_)
   intro w11 e1; replace h := h w11 e1
   refine qo (qz (wp_seq (qx ?_)))
   obtain ⟨d4, A9, n5, c7, x3, hl0, hx, h⟩ := h
   refine qq (qaq (cs := (d4 ++ ([.slice A9 n5 c7, .int .u64 x3] : List Value))) rfl Tryz.isAgg164 Tryz.sizeOf164 (by simp [hl0]) hx ?_)
   obtain ⟨hl, h1, hw, h⟩ := h
   refine qq (qbd (cs := (d4 ++ ([.slice A9 n5 c7, .int .u64 x3] : List Value))) rfl Tryz.sizeOf164 hl h1 hw ?_)
   intro w12 e1; replace h := h w12 e1
   refine qo (qz (wp_ret ?_))
   obtain ⟨d5, A10, n6, c8, x4, hl0_0, hx0, h⟩ := h
   exact qbi (vs := [.agg (d5 ++ ([.slice A10 n6 c8, .int .u64 x4] : List Value)).toArray]) (v := .agg (d5 ++ ([.slice A10 n6 c8, .int .u64 x4] : List Value)).toArray) Tryz.results97 ⟨⟨b2, 0, by kernel_rfl, run_loadN Tryz.isAgg164 Tryz.sizeOf164 (by simp [hl0_0]) hx0⟩, trivial⟩ h
 ·clear hJ1
  refine wp_seq (qx (qbt 1 ?_))
  obtain ⟨x5, hx, h⟩ := h
  refine qq (qap (v := .int .u64 x5) rfl Tryz.isAgg127 hx ?_)
  refine qbt 2 (wl_split (e := (decide (x5 < 64))) ?_ ?_)
  ·intro hb; refine qbs 9 (e := (decide (x5 < 64))) (b := true) hb ?_
   replace h := h.1 (of_decide_eq_true hb)
   refine qbt 1 ?_
   obtain ⟨A11, n7, c9, hx, h⟩ := h
   refine qq (qap (v := .slice A11 n7 c9) rfl Tryz.isAgg62 hx ?_)
   refine qbt 2 ?_
   obtain ⟨x6, hx, h⟩ := h
   refine qq (qap (v := .int .u64 x6) rfl Tryz.isAgg127 hx ?_)
   refine qbr (qz (wp_cond_split (t := ((n7 : Int) == (IntKind.i64.wrap x6))) (by kernel_rfl) (fun hb => ?_) (fun hb => ?_)))
   ·replace h := h.1 (eq_of_beq hb)
    refine qx (qq (qai (args := #[]) rfl Tryz.call110 (Ret.mono h ?_)))
    clear h; rintro r2 w13 ⟨d6, rfl, hl0, h⟩
    refine qbt 1 ?_
    obtain ⟨hl, h1, hw, h⟩ := h
    refine qq (qbd (cs := d6) rfl Tryz.sizeOf162 hl h1 hw ?_)
    intro w14 e1; replace h := h w14 e1
    refine qo (qz ?_)
    exact ⟨(), h, qaa⟩
   ·replace h := h.2 (ne_of_beq_false hb)
    refine wp_skip (qz ?_)
    exact ⟨(), h, qaa⟩
  ·intro hb; refine qbs 9 (e := (decide (x5 < 64))) (b := false) hb ?_
   replace h := h.2 (of_decide_eq_false hb)
   refine qbr (qz (wp_cond_false (by kernel_rfl) (wp_skip (qz ?_))))
   exact ⟨(), h, qaa⟩
def S_98 (d1 : List Value) (A1 : Option Addr) (n1 c1 : Nat) (x1 : Int) (w : World) (Q : Value → World → Prop) : Prop :=
 ∀ b1 w1, b1 = w.heap.size → w1 = w.alloc (.cells (d1 ++ ([.slice A1 n1 c1, .int .u64 x1] : List Value)).toArray 164) →
 ∀ b2 w2, b2 = w1.heap.size → w2 = w1.alloc (.cells (List.replicate 32 (.int .u8 0 : Value)).toArray 22) →
 ∀ b3 w3, b3 = w2.heap.size → w3 = w2.alloc (.cells #[.int .u8 128] 5) →
 ∃ (I1 : (Option Addr) → Nat → Nat → World → Prop) (μ1 : (Option Addr) → Nat → Nat → World → Nat), I1 (some ⟨b3, 0, none⟩) 1 1 w3 ∧
 ∀ A2 n2 c2 w4, I1 A2 n2 c2 w4 →
 ∃ A3 n3 c3, w4.cell? ⟨b1, 8, none⟩ = some (.slice A3 n3 c3) ∧
 (((IntKind.i64.wrap ((IntKind.i64.wrap ((n3 : Int) + (n2 : Int))) + 8)).tmod 64) ≠ 0 →
 ∀ b4 w5, b4 = w4.heap.size → w5 = w4.alloc (.cells #[.int .u8 0] 5) →
 ∃ l1 l2 : List Value, (n2 + 1) * 1 ≤ 140737488355328 ∧ l1.length = n2 * 1 ∧ RdS w5 A2 l1 ∧ l2.length = 1 * 1 ∧ RdS w5 (some ⟨b4, 0, none⟩) l2 ∧ One l2 ∧ (n2 + 1 ≤ c2 → Room w5 A2 (n2 * 1) (1 * 1)) ∧
 ∀ A4 c4 w6, Appended w5 5 1 #[.int .u8 0] A2 n2 c2 1 l1 l2 A4 c4 w6 →
 I1 A4 (n2 + 1) c4 w6 ∧ μ1 A4 (n2 + 1) c4 w6 < μ1 A2 n2 c2 w4) ∧
 (((IntKind.i64.wrap ((IntKind.i64.wrap ((n3 : Int) + (n2 : Int))) + 8)).tmod 64) = 0 →
 ∃ (I2 : (Option Addr) → Nat → Nat → Int → World → Prop) (μ2 : (Option Addr) → Nat → Nat → Int → World → Nat), I2 A2 n2 c2 0 w4 ∧
 ∀ A5 n4 c5 x2 w7, I2 A5 n4 c5 x2 w7 →
 (x2 < 8 →
 ∃ x3, w7.cell? ⟨b1, 9, none⟩ = some (.int .u64 x3) ∧
 0 ≤ (IntKind.i64.wrap (8 * (IntKind.i64.wrap (7 - x2)))) ∧
 ∀ b5 w8, b5 = w7.heap.size → w8 = w7.alloc (.cells #[.int .u8 (IntKind.u8.wrap (iShr .u64 (IntKind.u64.wrap (8 * x3)) (IntKind.i64.wrap (8 * (IntKind.i64.wrap (7 - x2))))))] 5) →
 ∃ l3 l4 : List Value, (n4 + 1) * 1 ≤ 140737488355328 ∧ l3.length = n4 * 1 ∧ RdS w8 A5 l3 ∧ l4.length = 1 * 1 ∧ RdS w8 (some ⟨b5, 0, none⟩) l4 ∧ One l4 ∧ (n4 + 1 ≤ c5 → Room w8 A5 (n4 * 1) (1 * 1)) ∧
 ∀ A6 c6 w9, Appended w8 5 1 #[.int .u8 0] A5 n4 c5 1 l3 l4 A6 c6 w9 →
 I2 A6 (n4 + 1) c6 (IntKind.i64.wrap (x2 + 1)) w9 ∧ μ2 A6 (n4 + 1) c6 (IntKind.i64.wrap (x2 + 1)) w9 < μ2 A5 n4 c5 x2 w7) ∧
 (¬ x2 < 8 →
 ∃ (d2 : List Value) (A7 : Option Addr) (n5 : Nat) (c7 : Nat) (x4 : Int), d2.length = 8 ∧ w7.rangeAt b1 0 (d2 ++ ([.slice A7 n5 c7, .int .u64 x4] : List Value)) ∧
 Ret Tryz.prog 97 #[.agg (d2 ++ ([.slice A7 n5 c7, .int .u64 x4] : List Value)).toArray, .slice A5 n4 c5] w7 fun r1 w10 => ∃ (d3 : List Value) (A8 : Option Addr) (n6 : Nat) (c8 : Nat) (x5 : Int), r1 = .agg (d3 ++ ([.slice A8 n6 c8, .int .u64 x5] : List Value)).toArray ∧ d3.length = 8 ∧
 ∀ b6 w11, b6 = w10.heap.size → w11 = w10.alloc (.cells ((List.replicate 8 (.int .u32 0 : Value)) ++ ([.slice none 0 0, .int .u64 0] : List Value)).toArray 164) →
 (d3 ++ ([.slice A8 n6 c8, .int .u64 x5] : List Value)).length = 10 ∧ One (d3 ++ ([.slice A8 n6 c8, .int .u64 x5] : List Value)) ∧ w11.there b6 0 10 ∧
 ∀ w12, w12 = w11.setCells b6 0 (d3 ++ ([.slice A8 n6 c8, .int .u64 x5] : List Value)) →
 ∀ b7 w13, b7 = w12.heap.size → w13 = w12.alloc (.cells (List.replicate 32 (.int .u8 0 : Value)).toArray 22) →
 ∃ (I3 : Int → World → Prop) (μ3 : Int → World → Nat), I3 0 w13 ∧
 ∀ x6 w14, I3 x6 w14 →
 (x6 < 32 →
 0 ≤ (IntKind.i64.wrap (x6.tdiv 4)) ∧ (IntKind.i64.wrap (x6.tdiv 4)) < 8 ∧
 ∃ x7, w14.cell? ⟨b6, (0 + ((IntKind.i64.wrap (x6.tdiv 4))).toNat * 1), none⟩ = some (.int .u32 x7) ∧
 0 ≤ (IntKind.i64.wrap (24 - (IntKind.i64.wrap (8 * (x6.tmod 4))))) ∧
 0 ≤ x6 ∧ x6 < 32 ∧
 (w14.cell? ⟨b7, (0 + (x6).toNat * 1), none⟩).isSome = true ∧ w14.frozen? ⟨b7, (0 + (x6).toNat * 1), none⟩ = false ∧
 ∀ w15, w15 = w14.setCell ⟨b7, (0 + (x6).toNat * 1), none⟩ (.int .u8 (IntKind.u8.wrap (iShr .u32 x7 (IntKind.i64.wrap (24 - (IntKind.i64.wrap (8 * (x6.tmod 4)))))))) →
 I3 (IntKind.i64.wrap (x6 + 1)) w15 ∧ μ3 (IntKind.i64.wrap (x6 + 1)) w15 < μ3 x6 w14) ∧
 (¬ x6 < 32 →
 ∃ (d4 : List Value), d4.length = 32 ∧ w14.rangeAt b7 0 d4 ∧
 d4.length = 32 ∧ One d4 ∧ w14.there b2 0 32 ∧
 ∀ w16, w16 = w14.setCells b2 0 d4 →
 ∃ (d5 : List Value), d5.length = 32 ∧ w16.rangeAt b2 0 d5 ∧ Q (.agg d5.toArray) w16)))
theorem L_98 (d1 : List Value) (A1 : Option Addr) (n1 c1 : Nat) (x1 : Int) (w : World) (Q : Value → World → Prop) (hp0 : d1.length = 8) (h : S_98 d1 A1 n1 c1 x1 w Q) : Ret Tryz.prog 98 #[.agg (d1 ++ ([.slice A1 n1 c1, .int .u64 x1] : List Value)).toArray] w Q := by
 unfold S_98 at h
 refine ret_of_wp Tryz.func98 rfl (wp_seq (qx (qq (qaf (v := .agg (d1 ++ ([.slice A1 n1 c1, .int .u64 x1] : List Value)).toArray) rfl ?_))))
 intro b1 w1 e1 e2; replace h := h b1 w1 e1 e2
 refine qq (qac rfl Tryz.zeroValue22 ?_)
 intro b2 w2 e1 e2; replace h := h b2 w2 e1 e2
 refine qo (qz (wp_seq (qx (qq (qag (cs := ([.int .u8 128] : List Value)) rfl Tryz.underlying62 Tryz.sizeOf5 Tryz.zeroValue5 (by kernel_rfl) (by decide) (by decide) ?_)))))
 intro b3 w3 e1 e2; replace h := h b3 w3 e1 e2
 refine qbr (qz (wp_seq (wp_block ?_)))
 obtain ⟨I1, μ1, hI1, hB1⟩ := h
 refine wp_loop_st (σ := (Option Addr) × Nat × Nat) (fun s a => ∃ u1 : Nat → Value, a = ⟨#[.agg (d1 ++ ([.slice A1 n1 c1, .int .u64 x1] : List Value)).toArray, .pointer (some ⟨b1, 0, none⟩), .pointer (some ⟨b2, 0, none⟩), .slice s.1 s.2.1 s.2.2, undef, undef, undef, undef, .slice (some ⟨b3, 0, none⟩) 1 1, u1 9, u1 10, u1 11, u1 12, u1 13, u1 14, u1 15, u1 16, u1 17, u1 18, u1 19, u1 20, undef, undef, undef, undef, undef, undef, undef, undef, undef, undef, undef, undef, undef, undef, undef, undef, undef, undef, undef, undef, undef, undef, undef, undef, undef, undef, undef, undef, undef, undef, undef, undef, undef, undef, undef, undef], []⟩) (fun s w => I1 s.1 s.2.1 s.2.2 w) (fun s w => μ1 s.1 s.2.1 s.2.2 w) ((some ⟨b3, 0, none⟩), 1, 1) (qaa) hI1 ?_
 rintro ⟨A2, n2, c2⟩ a w4 ⟨u1, rfl⟩ hI1
 have h := hB1 A2 n2 c2 w4 hI1
 refine wp_seq (wp_seq (qx (qbt 1 ?_)))
 obtain ⟨A3, n3, c3, hx, h⟩ := h
 refine qq (qap (v := .slice A3 n3 c3) rfl Tryz.isAgg62 hx ?_)
 refine qbr (qz (wp_cond_split (t := (((IntKind.i64.wrap ((IntKind.i64.wrap ((n3 : Int) + (n2 : Int))) + 8)).tmod 64) != 0)) (by kernel_rfl) (fun hb => ?_) (fun hb => ?_)))
 ·replace h := h.1 (bne_iff_ne.1 hb)
  refine wp_skip (qz (wp_block (qx (qbt 1 (qq (qag (cs := ([.int .u8 0] : List Value)) rfl Tryz.underlying62 Tryz.sizeOf5 Tryz.zeroValue5 (by kernel_rfl) (by decide) (by decide) ?_))))))
  intro b4 w5 e1 e2; replace h := h b4 w5 e1 e2
  obtain ⟨l1, l2, h1, h2, h3, h4, h5, h6, h7, h⟩ := h
  refine qq (qad (A := A2) (n := n2) (c := c2) (B := (some ⟨b4, 0, none⟩)) (m := 1) (c2 := 1) (olds := l1) (news := l2) rfl Tryz.underlying62 Tryz.underlying62 Tryz.typeInfo5 rfl (by decide) h1 h2 h3 h4 h5 h6 h7 ?_)
  intro A4 c4 w6 e1; replace h := h A4 c4 w6 e1
  refine qbr (qu (qz ?_))
  exact ⟨(A4, (n2 + 1), c4), qaa, h.1, h.2⟩
 ·replace h := h.2 (bne_false hb)
  refine wp_exit (qr (qr (block_exit_eq (qz (wp_seq (wp_seq (qx (qbr (qz (wp_block ?_))))))))))
  obtain ⟨I2, μ2, hI2, hB2⟩ := h
  refine wp_loop_st (σ := (Option Addr) × Nat × Nat × Int) (fun s a => ∃ u2 : Nat → Value, a = ⟨#[.agg (d1 ++ ([.slice A1 n1 c1, .int .u64 x1] : List Value)).toArray, .pointer (some ⟨b1, 0, none⟩), .pointer (some ⟨b2, 0, none⟩), .slice s.1 s.2.1 s.2.2.1, u2 4, undef, undef, undef, .slice (some ⟨b3, 0, none⟩) 1 1, .pointer (some ⟨b1, 8, none⟩), .slice A3 n3 c3, .int .i64 (n3 : Int), .slice A2 n2 c2, .int .i64 (n2 : Int), .int .i64 (IntKind.i64.wrap ((n3 : Int) + (n2 : Int))), .int .i64 (IntKind.i64.wrap ((IntKind.i64.wrap ((n3 : Int) + (n2 : Int))) + 8)), .int .i64 ((IntKind.i64.wrap ((IntKind.i64.wrap ((n3 : Int) + (n2 : Int))) + 8)).tmod 64), .bool (((IntKind.i64.wrap ((IntKind.i64.wrap ((n3 : Int) + (n2 : Int))) + 8)).tmod 64) != 0), u1 18, u1 19, u1 20, .int .i64 s.2.2.2, u2 22, u2 23, u2 24, u2 25, u2 26, u2 27, u2 28, u2 29, u2 30, u2 31, u2 32, u2 33, u2 34, u2 35, undef, undef, undef, undef, undef, undef, undef, undef, undef, undef, undef, undef, undef, undef, undef, undef, undef, undef, undef, undef, undef], []⟩) (fun s w => I2 s.1 s.2.1 s.2.2.1 s.2.2.2 w) (fun s w => μ2 s.1 s.2.1 s.2.2.1 s.2.2.2 w) (A2, n2, c2, 0) (qaa) hI2 ?_
  rintro ⟨A5, n4, c5, x2⟩ a w7 ⟨u2, rfl⟩ hI2
  have h := hB2 A5 n4 c5 x2 w7 hI2
  refine wp_seq (qx (qbr (qz (wp_seq (wp_cond_split (t := (decide (x2 < 8))) (by kernel_rfl) (fun hb => ?_) (fun hb => ?_))))))
  ·replace h := h.1 (of_decide_eq_true hb)
   refine wp_skip (qz (wp_seq (wp_block (wp_seq (qx (qbr (qz (qx (qbt 2 ?_)))))))))
   obtain ⟨x3, hx, h⟩ := h
   refine qq (qap (v := .int .u64 x3) rfl Tryz.isAgg127 hx ?_)
   refine qbt 4 ?_
   obtain ⟨h1, h⟩ := h
   refine qq (qaz (k := .u64) (k2 := .i64) (x := (IntKind.u64.wrap (8 * x3))) (y := (IntKind.i64.wrap (8 * (IntKind.i64.wrap (7 - x2))))) rfl h1 ?_)
   refine qbt 1 (qq (qag (cs := ([.int .u8 (IntKind.u8.wrap (iShr .u64 (IntKind.u64.wrap (8 * x3)) (IntKind.i64.wrap (8 * (IntKind.i64.wrap (7 - x2))))))] : List Value)) rfl Tryz.underlying62 Tryz.sizeOf5 Tryz.zeroValue5 (by kernel_rfl) (by decide) (by decide) ?_))
   intro b5 w8 e1 e2; replace h := h b5 w8 e1 e2
   obtain ⟨l3, l4, h1, h2, h3, h4, h5, h6, h7, h⟩ := h
   refine qq (qad (A := A5) (n := n4) (c := c5) (B := (some ⟨b5, 0, none⟩)) (m := 1) (c2 := 1) (olds := l3) (news := l4) rfl Tryz.underlying62 Tryz.underlying62 Tryz.typeInfo5 rfl (by decide) h1 h2 h3 h4 h5 h6 h7 ?_)
   intro A6 c6 w9 e1; replace h := h A6 c6 w9 e1
   refine qbr (qu (qz (qx (qbr (qz ?_)))))
   exact ⟨(A6, (n4 + 1), c6, (IntKind.i64.wrap (x2 + 1))), qaa, h.1, h.2⟩
  ·replace h := h.2 (of_decide_eq_false hb)
   refine wp_exit (qr (qr (block_exit_eq (qz (wp_seq (qx ?_))))))
   obtain ⟨d2, A7, n5, c7, x4, hl0, hx, h⟩ := h
   refine qq (qaq (cs := (d2 ++ ([.slice A7 n5 c7, .int .u64 x4] : List Value))) rfl Tryz.isAgg164 Tryz.sizeOf164 (by simp [hl0]) hx ?_)
   refine qbt 1 (qq (qai (args := #[.agg (d2 ++ ([.slice A7 n5 c7, .int .u64 x4] : List Value)).toArray, .slice A5 n4 c5]) rfl Tryz.call97 (Ret.mono h ?_)))
   clear h; rintro r1 w10 ⟨d3, A8, n6, c8, x5, rfl, hl0, h⟩
   refine qq (qac rfl Tryz.zeroValue164 ?_)
   intro b6 w11 e1 e2; replace h := h b6 w11 e1 e2
   obtain ⟨hl, h1, hw, h⟩ := h
   refine qq (qbd (cs := (d3 ++ ([.slice A8 n6 c8, .int .u64 x5] : List Value))) rfl Tryz.sizeOf164 hl h1 hw ?_)
   intro w12 e1; replace h := h w12 e1
   refine qo (qz (wp_seq (qx (qq (qac rfl Tryz.zeroValue22 ?_)))))
   intro b7 w13 e1 e2; replace h := h b7 w13 e1 e2
   refine qo (qz (wp_seq (wp_seq (qx (qbr (qz (wp_block ?_)))))))
   obtain ⟨I3, μ3, hI3, hB3⟩ := h
   refine wp_loop_st (σ := Int) (fun s a => ∃ u3 : Nat → Value, a = ⟨#[.agg (d1 ++ ([.slice A1 n1 c1, .int .u64 x1] : List Value)).toArray, .pointer (some ⟨b1, 0, none⟩), .pointer (some ⟨b2, 0, none⟩), .slice A5 n4 c5, u2 4, .pointer (some ⟨b6, 0, none⟩), .pointer (some ⟨b7, 0, none⟩), u3 7, .slice (some ⟨b3, 0, none⟩) 1 1, .pointer (some ⟨b1, 8, none⟩), .slice A3 n3 c3, .int .i64 (n3 : Int), .slice A2 n2 c2, .int .i64 (n2 : Int), .int .i64 (IntKind.i64.wrap ((n3 : Int) + (n2 : Int))), .int .i64 (IntKind.i64.wrap ((IntKind.i64.wrap ((n3 : Int) + (n2 : Int))) + 8)), .int .i64 ((IntKind.i64.wrap ((IntKind.i64.wrap ((n3 : Int) + (n2 : Int))) + 8)).tmod 64), .bool (((IntKind.i64.wrap ((IntKind.i64.wrap ((n3 : Int) + (n2 : Int))) + 8)).tmod 64) != 0), u1 18, u1 19, u1 20, .int .i64 x2, .bool (decide (x2 < 8)), u2 23, u2 24, u2 25, u2 26, u2 27, u2 28, u2 29, u2 30, u2 31, u2 32, u2 33, u2 34, u2 35, .agg (d2 ++ ([.slice A7 n5 c7, .int .u64 x4] : List Value)).toArray, .slice A5 n4 c5, .agg (d3 ++ ([.slice A8 n6 c8, .int .u64 x5] : List Value)).toArray, .int .i64 s, u3 40, u3 41, u3 42, u3 43, u3 44, u3 45, u3 46, u3 47, u3 48, u3 49, u3 50, u3 51, u3 52, u3 53, u3 54, u3 55, undef], []⟩) (fun s w => I3 s w) (fun s w => μ3 s w) (0) (qaa) hI3 ?_
   rintro x6 a w14 ⟨u3, rfl⟩ hI3
   have h := hB3 x6 w14 hI3
   refine wp_seq (qx (qbr (qz (wp_seq (wp_cond_split (t := (decide (x6 < 32))) (by kernel_rfl) (fun hb => ?_) (fun hb => ?_))))))
   ·replace h := h.1 (of_decide_eq_true hb)
    refine wp_skip (qz (wp_seq (wp_block (wp_seq (qx (qbr (qz (qx (qbt 4 ?_)))))))))
    obtain ⟨h1, h2, h⟩ := h
    refine qq (qao (k := .i64) (j := (IntKind.i64.wrap (x6.tdiv 4))) (b := b6) (off := 0) rfl Tryz.underlying162 Tryz.sizeOf23 h1 h2 ?_)
    obtain ⟨x7, hx, h⟩ := h
    refine qq (qap (v := .int .u32 x7) rfl Tryz.isAgg23 hx ?_)
    refine qbt 4 ?_
    obtain ⟨h1, h⟩ := h
    refine qq (qaz (k := .u32) (k2 := .i64) (x := x7) (y := (IntKind.i64.wrap (24 - (IntKind.i64.wrap (8 * (x6.tmod 4)))))) rfl h1 ?_)
    refine qbt 1 ?_
    obtain ⟨h1, h2, h⟩ := h
    refine qq (qao (k := .i64) (j := x6) (b := b7) (off := 0) rfl Tryz.underlying22 Tryz.sizeOf5 h1 h2 ?_)
    obtain ⟨hc, hf, h⟩ := h
    refine qq (qbc (v := .int .u8 (IntKind.u8.wrap (iShr .u32 x7 (IntKind.i64.wrap (24 - (IntKind.i64.wrap (8 * (x6.tmod 4)))))))) rfl Tryz.sizeOf5 rfl hc hf ?_)
    intro w15 e1; replace h := h w15 e1
    refine qo (qu (qz (qx (qbr (qz ?_)))))
    exact ⟨((IntKind.i64.wrap (x6 + 1))), qaa, h.1, h.2⟩
   ·replace h := h.2 (of_decide_eq_false hb)
    refine wp_exit (qr (qr (block_exit_eq (qz (wp_seq (qx ?_))))))
    obtain ⟨d4, hl0, hx, h⟩ := h
    refine qq (qaq (cs := d4) rfl Tryz.isAgg22 Tryz.sizeOf22 (by simp [hl0]) hx ?_)
    obtain ⟨hl, h1, hw, h⟩ := h
    refine qq (qbd (cs := d4) rfl Tryz.sizeOf22 hl h1 hw ?_)
    intro w16 e1; replace h := h w16 e1
    refine qo (qz (wp_ret ?_))
    obtain ⟨d5, hl0_0, hx0, h⟩ := h
    exact qbi (vs := [.agg d5.toArray]) (v := .agg d5.toArray) Tryz.results98 ⟨⟨b2, 0, by kernel_rfl, run_loadN Tryz.isAgg22 Tryz.sizeOf22 (by simp [hl0_0]) hx0⟩, trivial⟩ h
def S_100 (x1 x2 : Int) (w : World) (Q : Value → World → Prop) : Prop :=
 Q (.tuple #[.int .u64 (IntKind.u64.wrap ((IntKind.u64.wrap ((IntKind.u64.wrap ((IntKind.u64.wrap (x1.tdiv 4294967296)) * (IntKind.u64.wrap (x2.tdiv 4294967296)))) + (IntKind.u64.wrap ((IntKind.u64.wrap ((IntKind.u64.wrap ((IntKind.u64.wrap (x1.tdiv 4294967296)) * (x2.tmod 4294967296))) + (IntKind.u64.wrap ((IntKind.u64.wrap ((x1.tmod 4294967296) * (x2.tmod 4294967296))).tdiv 4294967296)))).tdiv 4294967296)))) + (IntKind.u64.wrap ((IntKind.u64.wrap ((IntKind.u64.wrap ((x1.tmod 4294967296) * (IntKind.u64.wrap (x2.tdiv 4294967296)))) + ((IntKind.u64.wrap ((IntKind.u64.wrap ((IntKind.u64.wrap (x1.tdiv 4294967296)) * (x2.tmod 4294967296))) + (IntKind.u64.wrap ((IntKind.u64.wrap ((x1.tmod 4294967296) * (x2.tmod 4294967296))).tdiv 4294967296)))).tmod 4294967296))).tdiv 4294967296)))), .int .u64 (IntKind.u64.wrap ((IntKind.u64.wrap ((IntKind.u64.wrap ((IntKind.u64.wrap ((x1.tmod 4294967296) * (IntKind.u64.wrap (x2.tdiv 4294967296)))) + ((IntKind.u64.wrap ((IntKind.u64.wrap ((IntKind.u64.wrap (x1.tdiv 4294967296)) * (x2.tmod 4294967296))) + (IntKind.u64.wrap ((IntKind.u64.wrap ((x1.tmod 4294967296) * (x2.tmod 4294967296))).tdiv 4294967296)))).tmod 4294967296))) * 4294967296)) + ((IntKind.u64.wrap ((x1.tmod 4294967296) * (x2.tmod 4294967296))).tmod 4294967296)))]) w
theorem L_100 (x1 x2 : Int) (w : World) (Q : Value → World → Prop) (h : S_100 x1 x2 w Q) : Ret Tryz.prog 100 #[.int .u64 x1, .int .u64 x2] w Q := by
 unfold S_100 at h
 refine ret_of_wp Tryz.func100 rfl (wp_seq (qx (qbr (qz (wp_seq (qx (qbr (qz (wp_seq (qx (qbr (qz (wp_seq (qx (qbr (qz (wp_seq (qx (qbr (qz (wp_seq (qx (qbr (qz (wp_ret ?_)))))))))))))))))))))))))
 exact qbh (v := .tuple #[.int .u64 (IntKind.u64.wrap ((IntKind.u64.wrap ((IntKind.u64.wrap ((IntKind.u64.wrap (x1.tdiv 4294967296)) * (IntKind.u64.wrap (x2.tdiv 4294967296)))) + (IntKind.u64.wrap ((IntKind.u64.wrap ((IntKind.u64.wrap ((IntKind.u64.wrap (x1.tdiv 4294967296)) * (x2.tmod 4294967296))) + (IntKind.u64.wrap ((IntKind.u64.wrap ((x1.tmod 4294967296) * (x2.tmod 4294967296))).tdiv 4294967296)))).tdiv 4294967296)))) + (IntKind.u64.wrap ((IntKind.u64.wrap ((IntKind.u64.wrap ((x1.tmod 4294967296) * (IntKind.u64.wrap (x2.tdiv 4294967296)))) + ((IntKind.u64.wrap ((IntKind.u64.wrap ((IntKind.u64.wrap (x1.tdiv 4294967296)) * (x2.tmod 4294967296))) + (IntKind.u64.wrap ((IntKind.u64.wrap ((x1.tmod 4294967296) * (x2.tmod 4294967296))).tdiv 4294967296)))).tmod 4294967296))).tdiv 4294967296)))), .int .u64 (IntKind.u64.wrap ((IntKind.u64.wrap ((IntKind.u64.wrap ((IntKind.u64.wrap ((x1.tmod 4294967296) * (IntKind.u64.wrap (x2.tdiv 4294967296)))) + ((IntKind.u64.wrap ((IntKind.u64.wrap ((IntKind.u64.wrap (x1.tdiv 4294967296)) * (x2.tmod 4294967296))) + (IntKind.u64.wrap ((IntKind.u64.wrap ((x1.tmod 4294967296) * (x2.tmod 4294967296))).tdiv 4294967296)))).tmod 4294967296))) * 4294967296)) + ((IntKind.u64.wrap ((x1.tmod 4294967296) * (x2.tmod 4294967296))).tmod 4294967296)))]) h
def S_110  (w : World) (Q : Value → World → Prop) : Prop :=
 ∀ b1 w1, b1 = w.heap.size → w1 = w.alloc (.cells (List.replicate 8 (.int .u32 0 : Value)).toArray 162) →
 w1.there b1 0 8 ∧
 ∀ w2, w2 = w1.setCells b1 0 ([.int .u32 1779033703, .int .u32 3144134277, .int .u32 1013904242, .int .u32 2773480762, .int .u32 1359893119, .int .u32 2600822924, .int .u32 528734635, .int .u32 1541459225] : List Value) →
 ∃ (d1 : List Value), d1.length = 8 ∧ w2.rangeAt b1 0 d1 ∧ Q (.agg d1.toArray) w2
theorem L_110  (w : World) (Q : Value → World → Prop) (h : S_110  w Q) : Ret Tryz.prog 110 #[] w Q := by
 unfold S_110 at h
 refine ret_of_wp Tryz.func110 rfl (wp_seq (qx (qq (qac rfl Tryz.zeroValue162 ?_))))
 intro b1 w1 e1 e2; replace h := h b1 w1 e1 e2
 refine qo (qz (wp_seq (qx (qbt 1 ?_))))
 obtain ⟨hw, h⟩ := h
 refine qq (qbd (cs := ([.int .u32 1779033703, .int .u32 3144134277, .int .u32 1013904242, .int .u32 2773480762, .int .u32 1359893119, .int .u32 2600822924, .int .u32 528734635, .int .u32 1541459225] : List Value)) rfl Tryz.sizeOf162 rfl (qab) hw ?_)
 intro w2 e1; replace h := h w2 e1
 refine qo (qz (wp_ret ?_))
 obtain ⟨d1, hl0_0, hx0, h⟩ := h
 exact qbi (vs := [.agg d1.toArray]) (v := .agg d1.toArray) Tryz.results110 ⟨⟨b1, 0, by kernel_rfl, run_loadN Tryz.isAgg162 Tryz.sizeOf162 (by simp [hl0_0]) hx0⟩, trivial⟩ h
def S_111 (d1 : List Value) (A1 : Option Addr) (n1 c1 : Nat) (w : World) (Q : Value → World → Prop) : Prop :=
 ∀ b1 w1, b1 = w.heap.size → w1 = w.alloc (.cells d1.toArray 162) →
 ∀ b2 w2, b2 = w1.heap.size → w2 = w1.alloc (.cells (List.replicate 8 (.int .u32 0 : Value)).toArray 162) →
 Ret Tryz.prog 119 #[.slice A1 n1 c1] w2 fun r1 w3 => ∃ (d2 : List Value), r1 = .agg d2.toArray ∧ d2.length = 64 ∧
 Ret Tryz.prog 120 #[] w3 fun r2 w4 => ∃ (d3 : List Value), r2 = .agg d3.toArray ∧ d3.length = 64 ∧
 ∀ b3 w5, b3 = w4.heap.size → w5 = w4.alloc (.cells (List.replicate 64 (.int .u32 0 : Value)).toArray 189) →
 ∀ b4 w6, b4 = w5.heap.size → w6 = w5.alloc (.cells (List.replicate 64 (.int .u32 0 : Value)).toArray 189) →
 d2.length = 64 ∧ One d2 ∧ w6.there b3 0 64 ∧
 ∀ w7, w7 = w6.setCells b3 0 d2 →
 d3.length = 64 ∧ One d3 ∧ w7.there b4 0 64 ∧
 ∀ w8, w8 = w7.setCells b4 0 d3 →
 ∃ (d4 : List Value), d4.length = 8 ∧ w8.rangeAt b1 0 d4 ∧
 ∀ b5 w9, b5 = w8.heap.size → w9 = w8.alloc (.cells (List.replicate 8 (.int .u32 0 : Value)).toArray 162) →
 d4.length = 8 ∧ One d4 ∧ w9.there b5 0 8 ∧
 ∀ w10, w10 = w9.setCells b5 0 d4 →
 ∃ (I1 : Int → World → Prop) (μ1 : Int → World → Nat), I1 0 w10 ∧
 ∀ x1 w11, I1 x1 w11 →
 (x1 < 64 →
 ∀ w12, w12 = w11.drew →
 ∃ x2, w11.cell? ⟨b5, 0, none⟩ = some (.int .u32 x2) ∧
 ∃ x3, w11.cell? ⟨b5, 4, none⟩ = some (.int .u32 x3) ∧
 ∀ w13, w13 = w12.drew →
 ∃ x4, w12.cell? ⟨b5, 7, none⟩ = some (.int .u32 x4) ∧
 ∃ x5, w12.cell? ⟨b5, 5, none⟩ = some (.int .u32 x5) ∧
 ∃ x6, w12.cell? ⟨b5, 6, none⟩ = some (.int .u32 x6) ∧
 0 ≤ x1 ∧ x1 < 64 ∧
 ∃ x7, w12.cell? ⟨b4, (0 + (x1).toNat * 1), none⟩ = some (.int .u32 x7) ∧
 0 ≤ x1 ∧ x1 < 64 ∧
 ∃ x8, w12.cell? ⟨b3, (0 + (x1).toNat * 1), none⟩ = some (.int .u32 x8) ∧
 Ret Tryz.prog 121 #[.int .u32 x3, .int .i64 6] w13 fun r3 w14 => ∃ x9, r3 = .int .u32 x9 ∧
 Keep w12 w14 ∧
 Ret Tryz.prog 121 #[.int .u32 x3, .int .i64 11] w14 fun r4 w15 => ∃ x10, r4 = .int .u32 x10 ∧
 Keep w12 w15 ∧
 Ret Tryz.prog 121 #[.int .u32 x3, .int .i64 25] w15 fun r5 w16 => ∃ x11, r5 = .int .u32 x11 ∧
 Keep w12 w16 ∧
 ∀ w17, w17 = w16.drew →
 ∃ x12, w16.cell? ⟨b5, 1, none⟩ = some (.int .u32 x12) ∧
 ∃ x13, w16.cell? ⟨b5, 2, none⟩ = some (.int .u32 x13) ∧
 ∃ x14, w16.cell? ⟨b5, 1, none⟩ = some (.int .u32 x14) ∧
 ∃ x15, w16.cell? ⟨b5, 2, none⟩ = some (.int .u32 x15) ∧
 Ret Tryz.prog 121 #[.int .u32 x2, .int .i64 2] w17 fun r6 w18 => ∃ x16, r6 = .int .u32 x16 ∧
 Keep w16 w18 ∧
 Ret Tryz.prog 121 #[.int .u32 x2, .int .i64 13] w18 fun r7 w19 => ∃ x17, r7 = .int .u32 x17 ∧
 Keep w16 w19 ∧
 Ret Tryz.prog 121 #[.int .u32 x2, .int .i64 22] w19 fun r8 w20 => ∃ x18, r8 = .int .u32 x18 ∧
 Keep w16 w20 ∧
 ∀ w21, w21 = w20.drew →
 (0 : Int) ≤ 1 ∧ (1 : Int) ≤ 8 ∧ (8 : Int) ≤ 8 ∧ (8 : Int) ≤ 8 ∧
 ∀ A2, A2 = cutA (some ⟨b5, 0, none⟩) 1 8 1 →
 (0 : Int) ≤ 0 ∧ (0 : Int) ≤ 7 ∧ (7 : Int) ≤ 8 ∧ (8 : Int) ≤ 8 ∧
 ∀ A3, A3 = cutA (some ⟨b5, 0, none⟩) 0 8 1 →
 ∃ l1 : List Value, l1.length = Nat.min (7 - 0) (8 - 1) * 1 ∧ RdS w21 A3 l1 ∧ One l1 ∧ Room w21 A2 0 l1.length ∧
 ∀ w22, w22 = puts w21 A2 0 l1 →
 (w22.cell? ⟨b5, 0, none⟩).isSome = true ∧ w22.frozen? ⟨b5, 0, none⟩ = false ∧
 ∀ w23, w23 = w22.setCell ⟨b5, 0, none⟩ (.int .u32 (IntKind.u32.wrap ((IntKind.u32.wrap ((IntKind.u32.wrap ((IntKind.u32.wrap ((IntKind.u32.wrap (x4 + (bXor .u32 (bXor .u32 x9 x10) x11))) + (bXor .u32 (bAnd .u32 x3 x5) (bAnd .u32 (bXor .u32 4294967295 x3) x6)))) + x7)) + x8)) + (IntKind.u32.wrap ((bXor .u32 (bXor .u32 x16 x17) x18) + (bXor .u32 (bXor .u32 (bAnd .u32 x2 x12) (bAnd .u32 x2 x13)) (bAnd .u32 x14 x15))))))) →
 ∃ x19, w23.cell? ⟨b5, 4, none⟩ = some (.int .u32 x19) ∧
 (w23.cell? ⟨b5, 4, none⟩).isSome = true ∧ w23.frozen? ⟨b5, 4, none⟩ = false ∧
 ∀ w24, w24 = w23.setCell ⟨b5, 4, none⟩ (.int .u32 (IntKind.u32.wrap (x19 + (IntKind.u32.wrap ((IntKind.u32.wrap ((IntKind.u32.wrap ((IntKind.u32.wrap (x4 + (bXor .u32 (bXor .u32 x9 x10) x11))) + (bXor .u32 (bAnd .u32 x3 x5) (bAnd .u32 (bXor .u32 4294967295 x3) x6)))) + x7)) + x8))))) →
 I1 (IntKind.i64.wrap (x1 + 1)) w24 ∧ μ1 (IntKind.i64.wrap (x1 + 1)) w24 < μ1 x1 w11) ∧
 (¬ x1 < 64 →
 ∃ (I2 : Int → World → Prop) (μ2 : Int → World → Nat), I2 0 w11 ∧
 ∀ x20 w25, I2 x20 w25 →
 (x20 < 8 →
 ∀ w26, w26 = w25.drew →
 0 ≤ x20 ∧ x20 < 8 ∧
 ∃ x21, w25.cell? ⟨b1, (0 + (x20).toNat * 1), none⟩ = some (.int .u32 x21) ∧
 0 ≤ x20 ∧ x20 < 8 ∧
 ∃ x22, w25.cell? ⟨b5, (0 + (x20).toNat * 1), none⟩ = some (.int .u32 x22) ∧
 0 ≤ x20 ∧ x20 < 8 ∧
 (w26.cell? ⟨b1, (0 + (x20).toNat * 1), none⟩).isSome = true ∧ w26.frozen? ⟨b1, (0 + (x20).toNat * 1), none⟩ = false ∧
 ∀ w27, w27 = w26.setCell ⟨b1, (0 + (x20).toNat * 1), none⟩ (.int .u32 (IntKind.u32.wrap (x21 + x22))) →
 I2 (IntKind.i64.wrap (x20 + 1)) w27 ∧ μ2 (IntKind.i64.wrap (x20 + 1)) w27 < μ2 x20 w25) ∧
 (¬ x20 < 8 →
 ∃ (d5 : List Value), d5.length = 8 ∧ w25.rangeAt b1 0 d5 ∧
 d5.length = 8 ∧ One d5 ∧ w25.there b2 0 8 ∧
 ∀ w28, w28 = w25.setCells b2 0 d5 →
 ∃ (d6 : List Value), d6.length = 8 ∧ w28.rangeAt b2 0 d6 ∧ Q (.agg d6.toArray) w28))
theorem L_111 (d1 : List Value) (A1 : Option Addr) (n1 c1 : Nat) (w : World) (Q : Value → World → Prop) (hp0 : d1.length = 8) (h : S_111 d1 A1 n1 c1 w Q) : Ret Tryz.prog 111 #[.agg d1.toArray, .slice A1 n1 c1] w Q := by
 unfold S_111 at h
 refine ret_of_wp Tryz.func111 rfl (wp_seq (qx (qq (qaf (v := .agg d1.toArray) rfl ?_))))
 intro b1 w1 e1 e2; replace h := h b1 w1 e1 e2
 refine qq (qac rfl Tryz.zeroValue162 ?_)
 intro b2 w2 e1 e2; replace h := h b2 w2 e1 e2
 refine qo (qz (wp_seq (qx (qbt 1 (qq (qai (args := #[.slice A1 n1 c1]) rfl Tryz.call119 (Ret.mono h ?_)))))))
 clear h; rintro r1 w3 ⟨d2, rfl, hl0, h⟩
 refine qq (qai (args := #[]) rfl Tryz.call120 (Ret.mono h ?_))
 clear h; rintro r2 w4 ⟨d3, rfl, hl0, h⟩
 refine qq (qac rfl Tryz.zeroValue189 ?_)
 intro b3 w5 e1 e2; replace h := h b3 w5 e1 e2
 refine qq (qac rfl Tryz.zeroValue189 ?_)
 intro b4 w6 e1 e2; replace h := h b4 w6 e1 e2
 obtain ⟨hl, h1, hw, h⟩ := h
 refine qq (qbd (cs := d2) rfl Tryz.sizeOf189 hl h1 hw ?_)
 intro w7 e1; replace h := h w7 e1
 obtain ⟨hl, h1, hw, h⟩ := h
 refine qq (qbd (cs := d3) rfl Tryz.sizeOf189 hl h1 hw ?_)
 intro w8 e1; replace h := h w8 e1
 refine qo (qz (wp_seq (qx ?_)))
 obtain ⟨d4, hl0, hx, h⟩ := h
 refine qq (qaq (cs := d4) rfl Tryz.isAgg162 Tryz.sizeOf162 (by simp [hl0]) hx ?_)
 refine qq (qac rfl Tryz.zeroValue162 ?_)
 intro b5 w9 e1 e2; replace h := h b5 w9 e1 e2
 obtain ⟨hl, h1, hw, h⟩ := h
 refine qq (qbd (cs := d4) rfl Tryz.sizeOf162 hl h1 hw ?_)
 intro w10 e1; replace h := h w10 e1
 refine qo (qz (wp_seq (wp_seq (qx (qbr (qz (wp_block ?_)))))))
 obtain ⟨I1, μ1, hI1, hB1⟩ := h
 refine wp_loop_st (σ := Int) (fun s a => ∃ u1 : Nat → Value, a = ⟨#[.agg d1.toArray, .slice A1 n1 c1, .pointer (some ⟨b1, 0, none⟩), undef, .pointer (some ⟨b2, 0, none⟩), .pointer (some ⟨b3, 0, none⟩), .pointer (some ⟨b4, 0, none⟩), .pointer (some ⟨b5, 0, none⟩), u1 8, u1 9, u1 10, u1 11, u1 12, undef, .slice A1 n1 c1, .agg d2.toArray, .agg d3.toArray, .agg d4.toArray, .int .i64 s, u1 19, u1 20, u1 21, u1 22, u1 23, u1 24, u1 25, u1 26, u1 27, u1 28, u1 29, u1 30, u1 31, u1 32, u1 33, u1 34, u1 35, u1 36, u1 37, u1 38, u1 39, u1 40, u1 41, u1 42, u1 43, u1 44, u1 45, u1 46, u1 47, u1 48, u1 49, u1 50, u1 51, u1 52, u1 53, u1 54, u1 55, u1 56, u1 57, u1 58, u1 59, u1 60, u1 61, u1 62, u1 63, u1 64, u1 65, u1 66, u1 67, u1 68, u1 69, u1 70, u1 71, u1 72, u1 73, u1 74, u1 75, u1 76, u1 77, u1 78, u1 79, u1 80, u1 81, u1 82, u1 83, u1 84, u1 85, u1 86, u1 87, u1 88, u1 89, u1 90, u1 91, undef, undef, undef, undef, undef, undef, undef, undef, undef, undef, undef, undef, undef], []⟩) (fun s w => I1 s w) (fun s w => μ1 s w) (0) (qaa) hI1 ?_
 rintro x1 a w11 ⟨u1, rfl⟩ hI1
 have h := hB1 x1 w11 hI1
 refine wp_seq (qx (qbr (qz (wp_seq (wp_cond_split (t := (decide (x1 < 64))) (by kernel_rfl) (fun hb => ?_) (fun hb => ?_))))))
 ·replace h := h.1 (of_decide_eq_true hb)
  refine wp_skip (qz (wp_seq (wp_block (wp_seq (qx (qbr (qz (wp_seq (qbj (Keep w11) [] ?_)))))))))
  intro w12 e1; have hK1 := keep_drew e1; replace h := h w12 e1
  refine qbo 0 rfl (qbz (v := .pointer (some ⟨b5, 0, none⟩))) ?_
  obtain ⟨x2, hx, h⟩ := h
  refine qbn 1 rfl (qbw (v := .int .u32 x2) rfl Tryz.isAgg23 (fun _ hk => keep_cell hk hx)) hK1 ?_
  refine qbo 2 rfl (qbz (v := .pointer (some ⟨b5, 4, none⟩))) ?_
  obtain ⟨x3, hx, h⟩ := h
  refine qbn 3 rfl (qbw (v := .int .u32 x3) rfl Tryz.isAgg23 (fun _ hk => keep_cell hk hx)) hK1 ?_
  refine qbo 4 rfl (qbz (v := .int .u32 x2)) (qbo 5 rfl (qbz (v := .int .u32 x3)) (qbk (qz (wp_seq (qbj (Keep w12) [] ?_)))))
  intro w13 e1; have hK2 := keep_drew e1; replace h := h w13 e1
  refine qbo 0 rfl (qbz (v := .pointer (some ⟨b5, 7, none⟩))) ?_
  obtain ⟨x4, hx, h⟩ := h
  refine qbn 1 rfl (qbw (v := .int .u32 x4) rfl Tryz.isAgg23 (fun _ hk => keep_cell hk hx)) hK2 ?_
  refine qbo 2 rfl (qbz (v := .int .u32 x3)) (qbo 4 rfl (qbz (v := .int .u32 x3)) (qbo 7 rfl (qbz (v := .int .u32 x3)) (qbo 11 rfl (qbz (v := .int .u32 x3)) (qbo 12 rfl (qbz (v := .pointer (some ⟨b5, 5, none⟩))) ?_))))
  obtain ⟨x5, hx, h⟩ := h
  refine qbn 13 rfl (qbw (v := .int .u32 x5) rfl Tryz.isAgg23 (fun _ hk => keep_cell hk hx)) hK2 ?_
  refine qbo 14 rfl (qbz (v := .int .u32 (bAnd .u32 x3 x5))) (qbo 15 rfl (qbz (v := .int .u32 x3)) (qbo 16 rfl (qbz (v := .int .u32 (bXor .u32 4294967295 x3))) (qbo 17 rfl (qbz (v := .pointer (some ⟨b5, 6, none⟩))) ?_)))
  obtain ⟨x6, hx, h⟩ := h
  refine qbn 18 rfl (qbw (v := .int .u32 x6) rfl Tryz.isAgg23 (fun _ hk => keep_cell hk hx)) hK2 ?_
  refine qbo 19 rfl (qbz (v := .int .u32 (bAnd .u32 (bXor .u32 4294967295 x3) x6))) (qbo 20 rfl (qbz (v := .int .u32 (bXor .u32 (bAnd .u32 x3 x5) (bAnd .u32 (bXor .u32 4294967295 x3) x6)))) (qbo 22 rfl (qbz (v := .int .i64 x1)) ?_))
  obtain ⟨h1, h2, h⟩ := h
  refine qbo 23 rfl (qbv (k := .i64) (j := x1) (b := b4) (off := 0) rfl Tryz.underlying189 Tryz.sizeOf23 h1 h2) ?_
  obtain ⟨x7, hx, h⟩ := h
  refine qbn 24 rfl (qbw (v := .int .u32 x7) rfl Tryz.isAgg23 (fun _ hk => keep_cell hk hx)) hK2 ?_
  refine qbo 26 rfl (qbz (v := .int .i64 x1)) ?_
  obtain ⟨h1, h2, h⟩ := h
  refine qbo 27 rfl (qbv (k := .i64) (j := x1) (b := b3) (off := 0) rfl Tryz.underlying189 Tryz.sizeOf23 h1 h2) ?_
  obtain ⟨x8, hx, h⟩ := h
  refine qbn 28 rfl (qbw (v := .int .u32 x8) rfl Tryz.isAgg23 (fun _ hk => keep_cell hk hx)) hK2 ?_
  refine qbm 3 rfl (qai (args := #[.int .u32 x3, .int .i64 6]) rfl Tryz.call121 (Ret.mono h ?_))
  clear h; rintro r3 w14 ⟨x9, rfl, h⟩
  obtain ⟨hK3, h⟩ := h
  refine ⟨fun _ _ => hK3, ?_⟩
  refine qbm 5 rfl (qai (args := #[.int .u32 x3, .int .i64 11]) rfl Tryz.call121 (Ret.mono h ?_))
  clear h; rintro r4 w15 ⟨x10, rfl, h⟩
  obtain ⟨hK4, h⟩ := h
  refine ⟨fun _ _ => hK4, ?_⟩
  refine qbo 6 rfl (qbz (v := .int .u32 (bXor .u32 x9 x10))) (qbm 8 rfl (qai (args := #[.int .u32 x3, .int .i64 25]) rfl Tryz.call121 (Ret.mono h ?_)))
  clear h; rintro r5 w16 ⟨x11, rfl, h⟩
  obtain ⟨hK5, h⟩ := h
  refine ⟨fun _ _ => hK5, ?_⟩
  refine qbo 9 rfl (qbz (v := .int .u32 (bXor .u32 (bXor .u32 x9 x10) x11))) (qbo 10 rfl (qbz (v := .int .u32 (IntKind.u32.wrap (x4 + (bXor .u32 (bXor .u32 x9 x10) x11))))) (qbo 21 rfl (qbz (v := .int .u32 (IntKind.u32.wrap ((IntKind.u32.wrap (x4 + (bXor .u32 (bXor .u32 x9 x10) x11))) + (bXor .u32 (bAnd .u32 x3 x5) (bAnd .u32 (bXor .u32 4294967295 x3) x6)))))) (qbo 25 rfl (qbz (v := .int .u32 (IntKind.u32.wrap ((IntKind.u32.wrap ((IntKind.u32.wrap (x4 + (bXor .u32 (bXor .u32 x9 x10) x11))) + (bXor .u32 (bAnd .u32 x3 x5) (bAnd .u32 (bXor .u32 4294967295 x3) x6)))) + x7)))) (qbo 29 rfl (qbz (v := .int .u32 (IntKind.u32.wrap ((IntKind.u32.wrap ((IntKind.u32.wrap ((IntKind.u32.wrap (x4 + (bXor .u32 (bXor .u32 x9 x10) x11))) + (bXor .u32 (bAnd .u32 x3 x5) (bAnd .u32 (bXor .u32 4294967295 x3) x6)))) + x7)) + x8)))) (qbo 30 rfl (qbz (v := .int .u32 (IntKind.u32.wrap ((IntKind.u32.wrap ((IntKind.u32.wrap ((IntKind.u32.wrap (x4 + (bXor .u32 (bXor .u32 x9 x10) x11))) + (bXor .u32 (bAnd .u32 x3 x5) (bAnd .u32 (bXor .u32 4294967295 x3) x6)))) + x7)) + x8)))) (qbk (qz (wp_seq (qbj (Keep w16) [] ?_)))))))))
  intro w17 e1; have hK6 := keep_drew e1; replace h := h w17 e1
  refine qbo 0 rfl (qbz (v := .int .u32 x2)) (qbo 2 rfl (qbz (v := .int .u32 x2)) (qbo 5 rfl (qbz (v := .int .u32 x2)) (qbo 8 rfl (qbz (v := .int .u32 x2)) (qbo 9 rfl (qbz (v := .pointer (some ⟨b5, 1, none⟩))) ?_))))
  obtain ⟨x12, hx, h⟩ := h
  refine qbn 10 rfl (qbw (v := .int .u32 x12) rfl Tryz.isAgg23 (fun _ hk => keep_cell hk hx)) hK6 ?_
  refine qbo 11 rfl (qbz (v := .int .u32 (bAnd .u32 x2 x12))) (qbo 12 rfl (qbz (v := .int .u32 x2)) (qbo 13 rfl (qbz (v := .pointer (some ⟨b5, 2, none⟩))) ?_))
  obtain ⟨x13, hx, h⟩ := h
  refine qbn 14 rfl (qbw (v := .int .u32 x13) rfl Tryz.isAgg23 (fun _ hk => keep_cell hk hx)) hK6 ?_
  refine qbo 15 rfl (qbz (v := .int .u32 (bAnd .u32 x2 x13))) (qbo 16 rfl (qbz (v := .int .u32 (bXor .u32 (bAnd .u32 x2 x12) (bAnd .u32 x2 x13)))) (qbo 17 rfl (qbz (v := .pointer (some ⟨b5, 1, none⟩))) ?_))
  obtain ⟨x14, hx, h⟩ := h
  refine qbn 18 rfl (qbw (v := .int .u32 x14) rfl Tryz.isAgg23 (fun _ hk => keep_cell hk hx)) hK6 ?_
  refine qbo 19 rfl (qbz (v := .pointer (some ⟨b5, 2, none⟩))) ?_
  obtain ⟨x15, hx, h⟩ := h
  refine qbn 20 rfl (qbw (v := .int .u32 x15) rfl Tryz.isAgg23 (fun _ hk => keep_cell hk hx)) hK6 ?_
  refine qbo 21 rfl (qbz (v := .int .u32 (bAnd .u32 x14 x15))) (qbo 22 rfl (qbz (v := .int .u32 (bXor .u32 (bXor .u32 (bAnd .u32 x2 x12) (bAnd .u32 x2 x13)) (bAnd .u32 x14 x15)))) (qbm 1 rfl (qai (args := #[.int .u32 x2, .int .i64 2]) rfl Tryz.call121 (Ret.mono h ?_))))
  clear h; rintro r6 w18 ⟨x16, rfl, h⟩
  obtain ⟨hK7, h⟩ := h
  refine ⟨fun _ _ => hK7, ?_⟩
  refine qbm 3 rfl (qai (args := #[.int .u32 x2, .int .i64 13]) rfl Tryz.call121 (Ret.mono h ?_))
  clear h; rintro r7 w19 ⟨x17, rfl, h⟩
  obtain ⟨hK8, h⟩ := h
  refine ⟨fun _ _ => hK8, ?_⟩
  refine qbo 4 rfl (qbz (v := .int .u32 (bXor .u32 x16 x17))) (qbm 6 rfl (qai (args := #[.int .u32 x2, .int .i64 22]) rfl Tryz.call121 (Ret.mono h ?_)))
  clear h; rintro r8 w20 ⟨x18, rfl, h⟩
  obtain ⟨hK9, h⟩ := h
  refine ⟨fun _ _ => hK9, ?_⟩
  refine qbo 7 rfl (qbz (v := .int .u32 (bXor .u32 (bXor .u32 x16 x17) x18))) (qbo 23 rfl (qbz (v := .int .u32 (IntKind.u32.wrap ((bXor .u32 (bXor .u32 x16 x17) x18) + (bXor .u32 (bXor .u32 (bAnd .u32 x2 x12) (bAnd .u32 x2 x13)) (bAnd .u32 x14 x15)))))) (qbo 24 rfl (qbz (v := .int .u32 (IntKind.u32.wrap ((bXor .u32 (bXor .u32 x16 x17) x18) + (bXor .u32 (bXor .u32 (bAnd .u32 x2 x12) (bAnd .u32 x2 x13)) (bAnd .u32 x14 x15)))))) (qbk (qz (wp_seq (qbj (Keep w20) [2] ?_))))))
  intro w21 e1; have hK10 := keep_drew e1; replace h := h w21 e1
  obtain ⟨h1, h2, h3, h4, h⟩ := h
  obtain ⟨A2, e1⟩ : ∃ A : Option Addr, A = cutA (some ⟨b5, 0, none⟩) (1 : Int).toNat (8 : Int).toNat 1 := ⟨_, rfl⟩
  refine qbo 0 rfl (qcd e1 (b := b5) (off := 0) (n := 8) (lo := 1) (hi := 8) (mx := 8) rfl (.inr ⟨_, .i64, rfl, by kernel_rfl⟩) (.inl ⟨rfl, rfl⟩) (.inl ⟨rfl, rfl⟩) (by simp) Tryz.underlying162 Tryz.sizeOf23 h1 h2 h3 h4) ?_
  replace h := h A2 e1
  obtain ⟨h1, h2, h3, h4, h⟩ := h
  obtain ⟨A3, e1⟩ : ∃ A : Option Addr, A = cutA (some ⟨b5, 0, none⟩) (0 : Int).toNat (8 : Int).toNat 1 := ⟨_, rfl⟩
  refine qbo 1 rfl (qcd e1 (b := b5) (off := 0) (n := 8) (lo := 0) (hi := 7) (mx := 8) rfl (.inl ⟨rfl, rfl⟩) (.inr ⟨_, .i64, rfl, by kernel_rfl⟩) (.inl ⟨rfl, rfl⟩) (by simp) Tryz.underlying162 Tryz.sizeOf23 h1 h2 h3 h4) ?_
  replace h := h A3 e1
  obtain ⟨l1, h1, h2, h3, h4, h⟩ := h
  refine qbm 2 rfl (qal (A := A2) (n := (8 - 1)) (c := (8 - 1)) (B := A3) (m := (7 - 0)) (c2 := (8 - 0)) (cs := l1) rfl Tryz.underlying132 Tryz.typeInfo23 h1 h2 h3 h4 ?_)
  intro w22 e1; replace h := h w22 e1
  refine ⟨fun hh => absurd hh (by decide), ?_⟩
  refine qbk (qz (wp_seq (qx (qbt 4 ?_))))
  obtain ⟨hc, hf, h⟩ := h
  refine qq (qbc (v := .int .u32 (IntKind.u32.wrap ((IntKind.u32.wrap ((IntKind.u32.wrap ((IntKind.u32.wrap ((IntKind.u32.wrap (x4 + (bXor .u32 (bXor .u32 x9 x10) x11))) + (bXor .u32 (bAnd .u32 x3 x5) (bAnd .u32 (bXor .u32 4294967295 x3) x6)))) + x7)) + x8)) + (IntKind.u32.wrap ((bXor .u32 (bXor .u32 x16 x17) x18) + (bXor .u32 (bXor .u32 (bAnd .u32 x2 x12) (bAnd .u32 x2 x13)) (bAnd .u32 x14 x15))))))) rfl Tryz.sizeOf23 rfl hc hf ?_)
  intro w23 e1; replace h := h w23 e1
  refine qo (qz (qx (qbt 1 ?_)))
  obtain ⟨x19, hx, h⟩ := h
  refine qq (qap (v := .int .u32 x19) rfl Tryz.isAgg23 hx ?_)
  refine qbt 3 ?_
  obtain ⟨hc, hf, h⟩ := h
  refine qq (qbc (v := .int .u32 (IntKind.u32.wrap (x19 + (IntKind.u32.wrap ((IntKind.u32.wrap ((IntKind.u32.wrap ((IntKind.u32.wrap (x4 + (bXor .u32 (bXor .u32 x9 x10) x11))) + (bXor .u32 (bAnd .u32 x3 x5) (bAnd .u32 (bXor .u32 4294967295 x3) x6)))) + x7)) + x8))))) rfl Tryz.sizeOf23 rfl hc hf ?_)
  intro w24 e1; replace h := h w24 e1
  refine qo (qu (qz (qx (qbr (qz ?_)))))
  exact ⟨((IntKind.i64.wrap (x1 + 1))), qaa, h.1, h.2⟩
 ·replace h := h.2 (of_decide_eq_false hb)
  refine wp_exit (qr (qr (block_exit_eq (qz (wp_seq (wp_seq (qx (qbr (qz (wp_block ?_))))))))))
  obtain ⟨I2, μ2, hI2, hB2⟩ := h
  refine wp_loop_st (σ := Int) (fun s a => ∃ u2 : Nat → Value, a = ⟨#[.agg d1.toArray, .slice A1 n1 c1, .pointer (some ⟨b1, 0, none⟩), undef, .pointer (some ⟨b2, 0, none⟩), .pointer (some ⟨b3, 0, none⟩), .pointer (some ⟨b4, 0, none⟩), .pointer (some ⟨b5, 0, none⟩), u1 8, u1 9, u1 10, u1 11, u1 12, u2 13, .slice A1 n1 c1, .agg d2.toArray, .agg d3.toArray, .agg d4.toArray, .int .i64 x1, .bool (decide (x1 < 64)), u1 20, u1 21, u1 22, u1 23, u1 24, u1 25, u1 26, u1 27, u1 28, u1 29, u1 30, u1 31, u1 32, u1 33, u1 34, u1 35, u1 36, u1 37, u1 38, u1 39, u1 40, u1 41, u1 42, u1 43, u1 44, u1 45, u1 46, u1 47, u1 48, u1 49, u1 50, u1 51, u1 52, u1 53, u1 54, u1 55, u1 56, u1 57, u1 58, u1 59, u1 60, u1 61, u1 62, u1 63, u1 64, u1 65, u1 66, u1 67, u1 68, u1 69, u1 70, u1 71, u1 72, u1 73, u1 74, u1 75, u1 76, u1 77, u1 78, u1 79, u1 80, u1 81, u1 82, u1 83, u1 84, u1 85, u1 86, u1 87, u1 88, u1 89, u1 90, u1 91, .int .i64 s, u2 93, u2 94, u2 95, u2 96, u2 97, u2 98, u2 99, u2 100, u2 101, u2 102, u2 103, undef], []⟩) (fun s w => I2 s w) (fun s w => μ2 s w) (0) (qaa) hI2 ?_
  rintro x20 a w25 ⟨u2, rfl⟩ hI2
  have h := hB2 x20 w25 hI2
  refine wp_seq (qx (qbr (qz (wp_seq (wp_cond_split (t := (decide (x20 < 8))) (by kernel_rfl) (fun hb => ?_) (fun hb => ?_))))))
  ·replace h := h.1 (of_decide_eq_true hb)
   refine wp_skip (qz (wp_seq (wp_block (wp_seq (qx (qbr (qz (qbj (Keep w25) [8] ?_))))))))
   intro w26 e1; have hK11 := keep_drew e1; replace h := h w26 e1
   refine qbo 0 rfl (qbz (v := .int .i64 x20)) ?_
   obtain ⟨h1, h2, h⟩ := h
   refine qbo 1 rfl (qbv (k := .i64) (j := x20) (b := b1) (off := 0) rfl Tryz.underlying162 Tryz.sizeOf23 h1 h2) ?_
   obtain ⟨x21, hx, h⟩ := h
   refine qbn 2 rfl (qbw (v := .int .u32 x21) rfl Tryz.isAgg23 (fun _ hk => keep_cell hk hx)) hK11 ?_
   refine qbo 3 rfl (qbz (v := .int .i64 x20)) ?_
   obtain ⟨h1, h2, h⟩ := h
   refine qbo 4 rfl (qbv (k := .i64) (j := x20) (b := b5) (off := 0) rfl Tryz.underlying162 Tryz.sizeOf23 h1 h2) ?_
   obtain ⟨x22, hx, h⟩ := h
   refine qbn 5 rfl (qbw (v := .int .u32 x22) rfl Tryz.isAgg23 (fun _ hk => keep_cell hk hx)) hK11 ?_
   refine qbo 6 rfl (qbz (v := .int .u32 (IntKind.u32.wrap (x21 + x22)))) ?_
   obtain ⟨h1, h2, h⟩ := h
   refine qbo 7 rfl (qbv (k := .i64) (j := x20) (b := b1) (off := 0) rfl Tryz.underlying162 Tryz.sizeOf23 h1 h2) ?_
   obtain ⟨hc, hf, h⟩ := h
   refine qbm 8 rfl (qbc (v := .int .u32 (IntKind.u32.wrap (x21 + x22))) rfl Tryz.sizeOf23 rfl hc hf ?_)
   intro w27 e1; replace h := h w27 e1
   refine ⟨fun hh => absurd hh (by decide), ?_⟩
   refine qbk (qu (qz (qx (qbr (qz ?_)))))
   exact ⟨((IntKind.i64.wrap (x20 + 1))), qaa, h.1, h.2⟩
  ·replace h := h.2 (of_decide_eq_false hb)
   refine wp_exit (qr (qr (block_exit_eq (qz (wp_seq (qx ?_))))))
   obtain ⟨d5, hl0, hx, h⟩ := h
   refine qq (qaq (cs := d5) rfl Tryz.isAgg162 Tryz.sizeOf162 (by simp [hl0]) hx ?_)
   obtain ⟨hl, h1, hw, h⟩ := h
   refine qq (qbd (cs := d5) rfl Tryz.sizeOf162 hl h1 hw ?_)
   intro w28 e1; replace h := h w28 e1
   refine qo (qz (wp_ret ?_))
   obtain ⟨d6, hl0_0, hx0, h⟩ := h
   exact qbi (vs := [.agg d6.toArray]) (v := .agg d6.toArray) Tryz.results111 ⟨⟨b2, 0, by kernel_rfl, run_loadN Tryz.isAgg162 Tryz.sizeOf162 (by simp [hl0_0]) hx0⟩, trivial⟩ h
def S_118 (x1 x2 : Int) (w : World) (Q : Value → World → Prop) : Prop :=
 0 ≤ (bAnd .u64 (IntKind.u64.wrap x2) 31) ∧
 0 ≤ (IntKind.u64.wrap (32 - (bAnd .u64 (IntKind.u64.wrap x2) 31))) ∧
 Q (.int .u32 (bOr .u32 (iShl .u32 x1 (bAnd .u64 (IntKind.u64.wrap x2) 31)) (iShr .u32 x1 (IntKind.u64.wrap (32 - (bAnd .u64 (IntKind.u64.wrap x2) 31)))))) w
theorem L_118 (x1 x2 : Int) (w : World) (Q : Value → World → Prop) (h : S_118 x1 x2 w Q) : Ret Tryz.prog 118 #[.int .u32 x1, .int .i64 x2] w Q := by
 unfold S_118 at h
 refine ret_of_wp Tryz.func118 rfl (wp_seq (qx (qbr (qz (wp_seq (qx (qbr (qz (wp_seq (qx (qbt 2 ?_)))))))))))
 obtain ⟨h1, h⟩ := h
 refine qq (qay (k := .u32) (k2 := .u64) (x := x1) (y := (bAnd .u64 (IntKind.u64.wrap x2) 31)) rfl h1 ?_)
 refine qbt 3 ?_
 obtain ⟨h1, h⟩ := h
 refine qq (qaz (k := .u32) (k2 := .u64) (x := x1) (y := (IntKind.u64.wrap (32 - (bAnd .u64 (IntKind.u64.wrap x2) 31)))) rfl h1 ?_)
 refine qbr (qz (wp_ret ?_))
 exact qbh (v := .int .u32 (bOr .u32 (iShl .u32 x1 (bAnd .u64 (IntKind.u64.wrap x2) 31)) (iShr .u32 x1 (IntKind.u64.wrap (32 - (bAnd .u64 (IntKind.u64.wrap x2) 31)))))) h
def S_119 (A1 : Option Addr) (n1 c1 : Nat) (w : World) (Q : Value → World → Prop) : Prop :=
 ∀ b1 w1, b1 = w.heap.size → w1 = w.alloc (.cells (List.replicate 64 (.int .u32 0 : Value)).toArray 189) →
 ∀ b2 w2, b2 = w1.heap.size → w2 = w1.alloc (.cells (List.replicate 64 (.int .u32 0 : Value)).toArray 189) →
 ∃ (I1 : Int → World → Prop) (μ1 : Int → World → Nat), I1 0 w2 ∧
 ∀ x1 w3, I1 x1 w3 →
 (x1 < 64 →
 (x1 < 16 →
 (0 : Int) ≤ (IntKind.i64.wrap (4 * x1)) ∧ ((IntKind.i64.wrap (4 * x1)) : Int) ≤ (IntKind.i64.wrap ((IntKind.i64.wrap (4 * x1)) + 4)) ∧ ((IntKind.i64.wrap ((IntKind.i64.wrap (4 * x1)) + 4)) : Int) ≤ (c1 : Int) ∧ ((c1 : Int) : Int) ≤ (c1 : Int) ∧
 ∀ A2, A2 = cutA A1 (((IntKind.i64.wrap (4 * x1))).toNat) c1 1 →
 Ret Tryz.prog 123 #[.slice A2 ((((IntKind.i64.wrap ((IntKind.i64.wrap (4 * x1)) + 4))).toNat) - (((IntKind.i64.wrap (4 * x1))).toNat)) (c1 - (((IntKind.i64.wrap (4 * x1))).toNat))] w3 fun r1 w4 => ∃ x2, r1 = .int .u32 x2 ∧
 0 ≤ x1 ∧ x1 < 64 ∧
 (w4.cell? ⟨b2, (0 + (x1).toNat * 1), none⟩).isSome = true ∧ w4.frozen? ⟨b2, (0 + (x1).toNat * 1), none⟩ = false ∧
 ∀ w5, w5 = w4.setCell ⟨b2, (0 + (x1).toNat * 1), none⟩ (.int .u32 x2) →
 I1 (IntKind.i64.wrap (x1 + 1)) w5 ∧ μ1 (IntKind.i64.wrap (x1 + 1)) w5 < μ1 x1 w3) ∧
 (¬ x1 < 16 →
 ∀ w6, w6 = w3.drew →
 0 ≤ (IntKind.i64.wrap (x1 - 15)) ∧ (IntKind.i64.wrap (x1 - 15)) < 64 ∧
 ∃ x3, w3.cell? ⟨b2, (0 + ((IntKind.i64.wrap (x1 - 15))).toNat * 1), none⟩ = some (.int .u32 x3) ∧
 0 ≤ (IntKind.i64.wrap (x1 - 2)) ∧ (IntKind.i64.wrap (x1 - 2)) < 64 ∧
 ∃ x4, w3.cell? ⟨b2, (0 + ((IntKind.i64.wrap (x1 - 2))).toNat * 1), none⟩ = some (.int .u32 x4) ∧
 Ret Tryz.prog 121 #[.int .u32 x3, .int .i64 7] w6 fun r2 w7 => ∃ x5, r2 = .int .u32 x5 ∧
 Ret Tryz.prog 121 #[.int .u32 x3, .int .i64 18] w7 fun r3 w8 => ∃ x6, r3 = .int .u32 x6 ∧
 Ret Tryz.prog 121 #[.int .u32 x4, .int .i64 17] w8 fun r4 w9 => ∃ x7, r4 = .int .u32 x7 ∧
 Ret Tryz.prog 121 #[.int .u32 x4, .int .i64 19] w9 fun r5 w10 => ∃ x8, r5 = .int .u32 x8 ∧
 ∀ w11, w11 = w10.drew →
 0 ≤ (IntKind.i64.wrap (x1 - 7)) ∧ (IntKind.i64.wrap (x1 - 7)) < 64 ∧
 ∃ x9, w10.cell? ⟨b2, (0 + ((IntKind.i64.wrap (x1 - 7))).toNat * 1), none⟩ = some (.int .u32 x9) ∧
 0 ≤ (IntKind.i64.wrap (x1 - 16)) ∧ (IntKind.i64.wrap (x1 - 16)) < 64 ∧
 ∃ x10, w10.cell? ⟨b2, (0 + ((IntKind.i64.wrap (x1 - 16))).toNat * 1), none⟩ = some (.int .u32 x10) ∧
 0 ≤ x1 ∧ x1 < 64 ∧
 (w11.cell? ⟨b2, (0 + (x1).toNat * 1), none⟩).isSome = true ∧ w11.frozen? ⟨b2, (0 + (x1).toNat * 1), none⟩ = false ∧
 ∀ w12, w12 = w11.setCell ⟨b2, (0 + (x1).toNat * 1), none⟩ (.int .u32 (IntKind.u32.wrap ((IntKind.u32.wrap ((IntKind.u32.wrap ((bXor .u32 (bXor .u32 x7 x8) (Int.fdiv x4 (2 ^ 10))) + x9)) + (bXor .u32 (bXor .u32 x5 x6) (Int.fdiv x3 (2 ^ 3))))) + x10))) →
 I1 (IntKind.i64.wrap (x1 + 1)) w12 ∧ μ1 (IntKind.i64.wrap (x1 + 1)) w12 < μ1 x1 w3)) ∧
 (¬ x1 < 64 →
 ∃ (d1 : List Value), d1.length = 64 ∧ w3.rangeAt b2 0 d1 ∧
 d1.length = 64 ∧ One d1 ∧ w3.there b1 0 64 ∧
 ∀ w13, w13 = w3.setCells b1 0 d1 →
 ∃ (d2 : List Value), d2.length = 64 ∧ w13.rangeAt b1 0 d2 ∧ Q (.agg d2.toArray) w13)
theorem L_119 (A1 : Option Addr) (n1 c1 : Nat) (w : World) (Q : Value → World → Prop) (h : S_119 A1 n1 c1 w Q) : Ret Tryz.prog 119 #[.slice A1 n1 c1] w Q := by
 unfold S_119 at h
 refine ret_of_wp Tryz.func119 rfl (wp_seq (qx (qq (qac rfl Tryz.zeroValue189 ?_))))
 intro b1 w1 e1 e2; replace h := h b1 w1 e1 e2
 refine qo (qz (wp_seq (qx (qq (qac rfl Tryz.zeroValue189 ?_)))))
 intro b2 w2 e1 e2; replace h := h b2 w2 e1 e2
 refine qo (qz (wp_seq (wp_seq (qx (qbr (qz (wp_block ?_)))))))
 obtain ⟨I1, μ1, hI1, hB1⟩ := h
 refine wp_loop_st (σ := Int) (fun s a => ∃ u1 : Nat → Value, a = ⟨#[.slice A1 n1 c1, undef, .pointer (some ⟨b1, 0, none⟩), .pointer (some ⟨b2, 0, none⟩), u1 4, u1 5, u1 6, u1 7, u1 8, .int .i64 s, u1 10, u1 11, u1 12, u1 13, u1 14, u1 15, u1 16, u1 17, u1 18, u1 19, u1 20, u1 21, u1 22, u1 23, u1 24, u1 25, u1 26, u1 27, u1 28, u1 29, u1 30, u1 31, u1 32, u1 33, u1 34, u1 35, u1 36, u1 37, u1 38, u1 39, u1 40, u1 41, u1 42, u1 43, u1 44, u1 45, u1 46, u1 47, u1 48, u1 49, u1 50, u1 51, u1 52, u1 53, u1 54, u1 55, u1 56, u1 57, u1 58, u1 59, u1 60, u1 61, u1 62, u1 63, undef], []⟩) (fun s w => I1 s w) (fun s w => μ1 s w) (0) (qaa) hI1 ?_
 rintro x1 a w3 ⟨u1, rfl⟩ hI1
 have h := hB1 x1 w3 hI1
 refine wp_seq (qx (qbr (qz (wp_seq (wp_cond_split (t := (decide (x1 < 64))) (by kernel_rfl) (fun hb => ?_) (fun hb => ?_))))))
 ·replace h := h.1 (of_decide_eq_true hb)
  refine wp_skip (qz (wp_seq (wp_block (wp_seq (qx (qbr (qz (wp_seq (wp_seq (qx (qbr (qz (wp_cond_split (t := (decide (x1 < 16))) (by kernel_rfl) (fun hb => ?_) (fun hb => ?_))))))))))))))
  ·replace h := h.1 (of_decide_eq_true hb)
   refine wp_seq (qx (qbt 7 ?_))
   obtain ⟨h1, h2, h3, h4, h⟩ := h
   refine qq (qba (A := A1) (n := n1) (c := c1) (lo := (IntKind.i64.wrap (4 * x1))) (hi := (IntKind.i64.wrap ((IntKind.i64.wrap (4 * x1)) + 4))) (mx := (c1 : Int)) rfl (.inr ⟨_, .i64, rfl, by kernel_rfl⟩) (.inr ⟨_, .i64, rfl, by kernel_rfl⟩) (.inl ⟨rfl, rfl⟩) (by simp) Tryz.underlying62 Tryz.sizeOf5 h1 h2 h3 h4 ?_)
   intro A2 e1; replace h := h A2 e1
   refine qq (qai (args := #[.slice A2 ((((IntKind.i64.wrap ((IntKind.i64.wrap (4 * x1)) + 4))).toNat) - (((IntKind.i64.wrap (4 * x1))).toNat)) (c1 - (((IntKind.i64.wrap (4 * x1))).toNat))]) rfl Tryz.call123 (Ret.mono h ?_))
   clear h; rintro r1 w4 ⟨x2, rfl, h⟩
   obtain ⟨h1, h2, h⟩ := h
   refine qq (qao (k := .i64) (j := x1) (b := b2) (off := 0) rfl Tryz.underlying189 Tryz.sizeOf23 h1 h2 ?_)
   obtain ⟨hc, hf, h⟩ := h
   refine qq (qbc (v := .int .u32 x2) rfl Tryz.sizeOf23 rfl hc hf ?_)
   intro w5 e1; replace h := h w5 e1
   refine qo (qz (wp_exit (qr (block_exit_eq (qz (qx (qbr (qz ?_))))))))
   exact ⟨((IntKind.i64.wrap (x1 + 1))), qaa, h.1, h.2⟩
  ·replace h := h.2 (of_decide_eq_false hb)
   refine wp_skip (qz (wp_seq (qbj (Keep w3) [] ?_)))
   intro w6 e1; have hK1 := keep_drew e1; replace h := h w6 e1
   refine qbo 0 rfl (qbz (v := .int .i64 x1)) (qbo 1 rfl (qbz (v := .int .i64 (IntKind.i64.wrap (x1 - 15)))) ?_)
   obtain ⟨h1, h2, h⟩ := h
   refine qbo 2 rfl (qbv (k := .i64) (j := (IntKind.i64.wrap (x1 - 15))) (b := b2) (off := 0) rfl Tryz.underlying189 Tryz.sizeOf23 h1 h2) ?_
   obtain ⟨x3, hx, h⟩ := h
   refine qbn 3 rfl (qbw (v := .int .u32 x3) rfl Tryz.isAgg23 (fun _ hk => keep_cell hk hx)) hK1 ?_
   refine qbo 4 rfl (qbz (v := .int .i64 x1)) (qbo 5 rfl (qbz (v := .int .i64 (IntKind.i64.wrap (x1 - 2)))) ?_)
   obtain ⟨h1, h2, h⟩ := h
   refine qbo 6 rfl (qbv (k := .i64) (j := (IntKind.i64.wrap (x1 - 2))) (b := b2) (off := 0) rfl Tryz.underlying189 Tryz.sizeOf23 h1 h2) ?_
   obtain ⟨x4, hx, h⟩ := h
   refine qbn 7 rfl (qbw (v := .int .u32 x4) rfl Tryz.isAgg23 (fun _ hk => keep_cell hk hx)) hK1 ?_
   refine qbo 8 rfl (qbz (v := .int .u32 x3)) (qbo 9 rfl (qbz (v := .int .u32 x4)) (qbk (qz (wp_seq (qx (qbt 1 (qq (qai (args := #[.int .u32 x3, .int .i64 7]) rfl Tryz.call121 (Ret.mono h ?_)))))))))
   clear h; rintro r2 w7 ⟨x5, rfl, h⟩
   refine qbt 1 (qq (qai (args := #[.int .u32 x3, .int .i64 18]) rfl Tryz.call121 (Ret.mono h ?_)))
   clear h; rintro r3 w8 ⟨x6, rfl, h⟩
   refine qbr (qz (wp_seq (qx (qbt 1 (qq (qai (args := #[.int .u32 x4, .int .i64 17]) rfl Tryz.call121 (Ret.mono h ?_)))))))
   clear h; rintro r4 w9 ⟨x7, rfl, h⟩
   refine qbt 1 (qq (qai (args := #[.int .u32 x4, .int .i64 19]) rfl Tryz.call121 (Ret.mono h ?_)))
   clear h; rintro r5 w10 ⟨x8, rfl, h⟩
   refine qbr (qz (qbj (Keep w10) [15] ?_))
   intro w11 e1; have hK2 := keep_drew e1; replace h := h w11 e1
   refine qbo 0 rfl (qbz (v := .int .i64 x1)) (qbo 1 rfl (qbz (v := .int .u32 (bXor .u32 (bXor .u32 x7 x8) (Int.fdiv x4 (2 ^ 10))))) (qbo 2 rfl (qbz (v := .int .i64 x1)) (qbo 3 rfl (qbz (v := .int .i64 (IntKind.i64.wrap (x1 - 7)))) ?_)))
   obtain ⟨h1, h2, h⟩ := h
   refine qbo 4 rfl (qbv (k := .i64) (j := (IntKind.i64.wrap (x1 - 7))) (b := b2) (off := 0) rfl Tryz.underlying189 Tryz.sizeOf23 h1 h2) ?_
   obtain ⟨x9, hx, h⟩ := h
   refine qbn 5 rfl (qbw (v := .int .u32 x9) rfl Tryz.isAgg23 (fun _ hk => keep_cell hk hx)) hK2 ?_
   refine qbo 6 rfl (qbz (v := .int .u32 (IntKind.u32.wrap ((bXor .u32 (bXor .u32 x7 x8) (Int.fdiv x4 (2 ^ 10))) + x9)))) (qbo 7 rfl (qbz (v := .int .u32 (bXor .u32 (bXor .u32 x5 x6) (Int.fdiv x3 (2 ^ 3))))) (qbo 8 rfl (qbz (v := .int .u32 (IntKind.u32.wrap ((IntKind.u32.wrap ((bXor .u32 (bXor .u32 x7 x8) (Int.fdiv x4 (2 ^ 10))) + x9)) + (bXor .u32 (bXor .u32 x5 x6) (Int.fdiv x3 (2 ^ 3))))))) (qbo 9 rfl (qbz (v := .int .i64 x1)) (qbo 10 rfl (qbz (v := .int .i64 (IntKind.i64.wrap (x1 - 16)))) ?_))))
   obtain ⟨h1, h2, h⟩ := h
   refine qbo 11 rfl (qbv (k := .i64) (j := (IntKind.i64.wrap (x1 - 16))) (b := b2) (off := 0) rfl Tryz.underlying189 Tryz.sizeOf23 h1 h2) ?_
   obtain ⟨x10, hx, h⟩ := h
   refine qbn 12 rfl (qbw (v := .int .u32 x10) rfl Tryz.isAgg23 (fun _ hk => keep_cell hk hx)) hK2 ?_
   refine qbo 13 rfl (qbz (v := .int .u32 (IntKind.u32.wrap ((IntKind.u32.wrap ((IntKind.u32.wrap ((bXor .u32 (bXor .u32 x7 x8) (Int.fdiv x4 (2 ^ 10))) + x9)) + (bXor .u32 (bXor .u32 x5 x6) (Int.fdiv x3 (2 ^ 3))))) + x10)))) ?_
   obtain ⟨h1, h2, h⟩ := h
   refine qbo 14 rfl (qbv (k := .i64) (j := x1) (b := b2) (off := 0) rfl Tryz.underlying189 Tryz.sizeOf23 h1 h2) ?_
   obtain ⟨hc, hf, h⟩ := h
   refine qbm 15 rfl (qbc (v := .int .u32 (IntKind.u32.wrap ((IntKind.u32.wrap ((IntKind.u32.wrap ((bXor .u32 (bXor .u32 x7 x8) (Int.fdiv x4 (2 ^ 10))) + x9)) + (bXor .u32 (bXor .u32 x5 x6) (Int.fdiv x3 (2 ^ 3))))) + x10))) rfl Tryz.sizeOf23 rfl hc hf ?_)
   intro w12 e1; replace h := h w12 e1
   refine ⟨fun hh => absurd hh (by decide), ?_⟩
   refine qbk (qu (qz (qx (qbr (qz ?_)))))
   exact ⟨((IntKind.i64.wrap (x1 + 1))), qaa, h.1, h.2⟩
 ·replace h := h.2 (of_decide_eq_false hb)
  refine wp_exit (qr (qr (block_exit_eq (qz (wp_seq (qx ?_))))))
  obtain ⟨d1, hl0, hx, h⟩ := h
  refine qq (qaq (cs := d1) rfl Tryz.isAgg189 Tryz.sizeOf189 (by simp [hl0]) hx ?_)
  obtain ⟨hl, h1, hw, h⟩ := h
  refine qq (qbd (cs := d1) rfl Tryz.sizeOf189 hl h1 hw ?_)
  intro w13 e1; replace h := h w13 e1
  refine qo (qz (wp_ret ?_))
  obtain ⟨d2, hl0_0, hx0, h⟩ := h
  exact qbi (vs := [.agg d2.toArray]) (v := .agg d2.toArray) Tryz.results119 ⟨⟨b1, 0, by kernel_rfl, run_loadN Tryz.isAgg189 Tryz.sizeOf189 (by simp [hl0_0]) hx0⟩, trivial⟩ h
def S_120  (w : World) (Q : Value → World → Prop) : Prop :=
 ∀ b1 w1, b1 = w.heap.size → w1 = w.alloc (.cells (List.replicate 64 (.int .u32 0 : Value)).toArray 189) →
 w1.there b1 0 64 ∧
 ∀ w2, w2 = w1.setCells b1 0 ([.int .u32 1116352408, .int .u32 1899447441, .int .u32 3049323471, .int .u32 3921009573, .int .u32 961987163, .int .u32 1508970993, .int .u32 2453635748, .int .u32 2870763221, .int .u32 3624381080, .int .u32 310598401, .int .u32 607225278, .int .u32 1426881987, .int .u32 1925078388, .int .u32 2162078206, .int .u32 2614888103, .int .u32 3248222580, .int .u32 3835390401, .int .u32 4022224774, .int .u32 264347078, .int .u32 604807628, .int .u32 770255983, .int .u32 1249150122, .int .u32 1555081692, .int .u32 1996064986, .int .u32 2554220882, .int .u32 2821834349, .int .u32 2952996808, .int .u32 3210313671, .int .u32 3336571891, .int .u32 3584528711, .int .u32 113926993, .int .u32 338241895, .int .u32 666307205, .int .u32 773529912, .int .u32 1294757372, .int .u32 1396182291, .int .u32 1695183700, .int .u32 1986661051, .int .u32 2177026350, .int .u32 2456956037, .int .u32 2730485921, .int .u32 2820302411, .int .u32 3259730800, .int .u32 3345764771, .int .u32 3516065817, .int .u32 3600352804, .int .u32 4094571909, .int .u32 275423344, .int .u32 430227734, .int .u32 506948616, .int .u32 659060556, .int .u32 883997877, .int .u32 958139571, .int .u32 1322822218, .int .u32 1537002063, .int .u32 1747873779, .int .u32 1955562222, .int .u32 2024104815, .int .u32 2227730452, .int .u32 2361852424, .int .u32 2428436474, .int .u32 2756734187, .int .u32 3204031479, .int .u32 3329325298] : List Value) →
 ∃ (d1 : List Value), d1.length = 64 ∧ w2.rangeAt b1 0 d1 ∧ Q (.agg d1.toArray) w2
theorem L_120  (w : World) (Q : Value → World → Prop) (h : S_120  w Q) : Ret Tryz.prog 120 #[] w Q := by
 unfold S_120 at h
 refine ret_of_wp Tryz.func120 rfl (wp_seq (qx (qq (qac rfl Tryz.zeroValue189 ?_))))
 intro b1 w1 e1 e2; replace h := h b1 w1 e1 e2
 refine qo (qz (wp_seq (qx (qbt 1 ?_))))
 obtain ⟨hw, h⟩ := h
 refine qq (qbd (cs := ([.int .u32 1116352408, .int .u32 1899447441, .int .u32 3049323471, .int .u32 3921009573, .int .u32 961987163, .int .u32 1508970993, .int .u32 2453635748, .int .u32 2870763221, .int .u32 3624381080, .int .u32 310598401, .int .u32 607225278, .int .u32 1426881987, .int .u32 1925078388, .int .u32 2162078206, .int .u32 2614888103, .int .u32 3248222580, .int .u32 3835390401, .int .u32 4022224774, .int .u32 264347078, .int .u32 604807628, .int .u32 770255983, .int .u32 1249150122, .int .u32 1555081692, .int .u32 1996064986, .int .u32 2554220882, .int .u32 2821834349, .int .u32 2952996808, .int .u32 3210313671, .int .u32 3336571891, .int .u32 3584528711, .int .u32 113926993, .int .u32 338241895, .int .u32 666307205, .int .u32 773529912, .int .u32 1294757372, .int .u32 1396182291, .int .u32 1695183700, .int .u32 1986661051, .int .u32 2177026350, .int .u32 2456956037, .int .u32 2730485921, .int .u32 2820302411, .int .u32 3259730800, .int .u32 3345764771, .int .u32 3516065817, .int .u32 3600352804, .int .u32 4094571909, .int .u32 275423344, .int .u32 430227734, .int .u32 506948616, .int .u32 659060556, .int .u32 883997877, .int .u32 958139571, .int .u32 1322822218, .int .u32 1537002063, .int .u32 1747873779, .int .u32 1955562222, .int .u32 2024104815, .int .u32 2227730452, .int .u32 2361852424, .int .u32 2428436474, .int .u32 2756734187, .int .u32 3204031479, .int .u32 3329325298] : List Value)) rfl Tryz.sizeOf189 rfl (qab) hw ?_)
 intro w2 e1; replace h := h w2 e1
 refine qo (qz (wp_ret ?_))
 obtain ⟨d1, hl0_0, hx0, h⟩ := h
 exact qbi (vs := [.agg d1.toArray]) (v := .agg d1.toArray) Tryz.results120 ⟨⟨b1, 0, by kernel_rfl, run_loadN Tryz.isAgg189 Tryz.sizeOf189 (by simp [hl0_0]) hx0⟩, trivial⟩ h
def S_121 (x1 x2 : Int) (w : World) (Q : Value → World → Prop) : Prop :=
 Ret Tryz.prog 118 #[.int .u32 x1, .int .i64 (IntKind.i64.wrap (0 - (x2.tmod 32)))] w fun r1 w1 => ∃ x3, r1 = .int .u32 x3 ∧
 Q (.int .u32 x3) w1
theorem L_121 (x1 x2 : Int) (w : World) (Q : Value → World → Prop) (h : S_121 x1 x2 w Q) : Ret Tryz.prog 121 #[.int .u32 x1, .int .i64 x2] w Q := by
 unfold S_121 at h
 refine ret_of_wp Tryz.func121 rfl (wp_seq (qx (qbr (qz (wp_seq (qx (qbt 4 (qq (qai (args := #[.int .u32 x1, .int .i64 (IntKind.i64.wrap (0 - (x2.tmod 32)))]) rfl Tryz.call118 (Ret.mono h ?_))))))))))
 clear h; rintro r1 w1 ⟨x3, rfl, h⟩
 refine qbr (qz (wp_ret ?_))
 exact qbh (v := .int .u32 x3) h
def S_123 (A1 : Option Addr) (n1 c1 : Nat) (w : World) (Q : Value → World → Prop) : Prop :=
 ∃ (I1 : Int → Int → World → Prop) (μ1 : Int → Int → World → Nat), I1 0 0 w ∧
 ∀ x1 x2 w1, I1 x1 x2 w1 →
 (x2 < (n1 : Int) →
 ∃ b1 o1, A1 = some ⟨b1, o1, none⟩ ∧ (0 : Int) ≤ x2 ∧ x2 < (n1 : Int) ∧
 ∃ x3, w1.cell? ⟨b1, (o1 + (x2).toNat * 1), none⟩ = some (.int .u8 x3) ∧
 I1 (bOr .u32 (IntKind.u32.wrap (x1 * 2 ^ 8)) (IntKind.u32.wrap x3)) (IntKind.i64.wrap (x2 + 1)) w1 ∧ μ1 (bOr .u32 (IntKind.u32.wrap (x1 * 2 ^ 8)) (IntKind.u32.wrap x3)) (IntKind.i64.wrap (x2 + 1)) w1 < μ1 x1 x2 w1) ∧
 (¬ x2 < (n1 : Int) →
 Q (.int .u32 x1) w1)
theorem L_123 (A1 : Option Addr) (n1 c1 : Nat) (w : World) (Q : Value → World → Prop) (h : S_123 A1 n1 c1 w Q) : Ret Tryz.prog 123 #[.slice A1 n1 c1] w Q := by
 unfold S_123 at h
 refine ret_of_wp Tryz.func123 rfl (wp_seq (qx (qbr (qz (wp_seq (qx (qbr (qz (wp_seq (wp_seq (qx (qbr (qz (wp_block ?_))))))))))))))
 obtain ⟨I1, μ1, hI1, hB1⟩ := h
 refine wp_loop_st (σ := Int × Int) (fun s a => ∃ u1 : Nat → Value, a = ⟨#[.slice A1 n1 c1, undef, .int .u32 0, .int .u32 s.1, undef, u1 5, .slice A1 n1 c1, .int .i64 (n1 : Int), .int .i64 s.2, u1 9, u1 10, u1 11, u1 12, u1 13, u1 14, u1 15, u1 16, u1 17, undef], []⟩) (fun s w => I1 s.1 s.2 w) (fun s w => μ1 s.1 s.2 w) (0, 0) (qaa) hI1 ?_
 rintro ⟨x1, x2⟩ a w1 ⟨u1, rfl⟩ hI1
 have h := hB1 x1 x2 w1 hI1
 refine wp_seq (qx (qbr (qz (wp_seq (wp_cond_split (t := (decide (x2 < (n1 : Int)))) (by kernel_rfl) (fun hb => ?_) (fun hb => ?_))))))
 ·replace h := h.1 (of_decide_eq_true hb)
  refine wp_skip (qz (wp_seq (wp_block (wp_seq (qx ?_)))))
  obtain ⟨b1, o1, rfl, h⟩ := h
  obtain ⟨h1, h2, h⟩ := h
  refine qq (qan (k := .i64) (j := x2) (b := b1) (off := o1) (n := n1) (c := c1) rfl Tryz.underlying62 Tryz.sizeOf5 h1 h2 ?_)
  obtain ⟨x3, hx, h⟩ := h
  refine qq (qap (v := .int .u8 x3) rfl Tryz.isAgg5 hx ?_)
  refine qbr (qz (qx (qbr (qu (qz (qx (qbr (qz ?_))))))))
  exact ⟨((bOr .u32 (IntKind.u32.wrap (x1 * 2 ^ 8)) (IntKind.u32.wrap x3)), (IntKind.i64.wrap (x2 + 1))), qaa, h.1, h.2⟩
 ·replace h := h.2 (of_decide_eq_false hb)
  refine wp_exit (qr (qr (block_exit_eq (qz (wp_seq (qx (qbr (qz (wp_ret ?_)))))))))
  exact qbh (v := .int .u32 x1) h
end Go.Proofs.YtpkfdhlkknanmaaGreat
