/-
 For each function: what it asks of the world that it is called in (S_n), and that this suffices (L_n). Written by a program of this proof (gen.py) off the function's own print.
-/
import Derived.Test.YtpkfdhlkknanmaaGreatDrx
import Derived.Test.YtpkfdhlkknanmaaGreatProg
set_option linter.all false
set_option maxRecDepth 4000
namespace Go.Proofs.YtpkfdhlkknanmaaGreat
open Go Go.RowKit Go.Proofs
def S_65 (d1 : List Value) (d2 : List Value) (x1 : Int) (A1 : Option Addr) (n1 c1 : Nat) (w : World) (Q : Value → World → Prop) : Prop :=
 ∀ b1 w1, b1 = w.heap.size → w1 = w.alloc (.cells d1.toArray 22) →
 ∀ b2 w2, b2 = w1.heap.size → w2 = w1.alloc (.cells d2.toArray 130) →
 ∃ (d3 : List Value), d3.length = 32 ∧ w2.rangeAt b1 0 d3 ∧
 ∃ (d4 : List Value), d4.length = 12 ∧ w2.rangeAt b2 0 d4 ∧
 Ret Tryz.prog 79 #[.agg d3.toArray, .agg d4.toArray, .int .u32 x1, .int .i64 (imin (n1 : Int) 1048576)] w2 fun r1 w3 => ∃ A2 n2 c2, r1 = .slice A2 n2 c2 ∧
 ∃ l1 l2 : List Value, (0 + n1) * 1 ≤ 140737488355328 ∧ l1.length = 0 * 1 ∧ RdS w3 none l1 ∧ l2.length = n1 * 1 ∧ RdS w3 A1 l2 ∧ One l2 ∧ (0 + n1 ≤ 0 → Room w3 none (0 * 1) (n1 * 1)) ∧
 ∀ A3 c3 w4, Appended w3 5 1 #[.int .u8 0] none 0 0 n1 l1 l2 A3 c3 w4 →
 ∃ (I1 : Int → World → Prop) (μ1 : Int → World → Nat), I1 0 w4 ∧
 ∀ x2 w5, I1 x2 w5 →
 (x2 < (n2 : Int) →
 ∀ w6, w6 = w5.drew →
 ∃ b3 o1, A1 = some ⟨b3, o1, none⟩ ∧ (0 : Int) ≤ x2 ∧ x2 < (n1 : Int) ∧
 ∃ x3, w5.cell? ⟨b3, (o1 + (x2).toNat * 1), none⟩ = some (.int .u8 x3) ∧
 ∃ b4 o2, A2 = some ⟨b4, o2, none⟩ ∧ (0 : Int) ≤ x2 ∧ x2 < (n2 : Int) ∧
 ∃ x4, w5.cell? ⟨b4, (o2 + (x2).toNat * 1), none⟩ = some (.int .u8 x4) ∧
 ∃ b5 o3, A3 = some ⟨b5, o3, none⟩ ∧ (0 : Int) ≤ x2 ∧ x2 < (((0 + n1) : Nat) : Int) ∧
 (w6.cell? ⟨b5, (o3 + (x2).toNat * 1), none⟩).isSome = true ∧ w6.frozen? ⟨b5, (o3 + (x2).toNat * 1), none⟩ = false ∧
 ∀ w7, w7 = w6.setCell ⟨b5, (o3 + (x2).toNat * 1), none⟩ (.int .u8 (bXor .u8 x3 x4)) →
 I1 (IntKind.i64.wrap (x2 + 1)) w7 ∧ μ1 (IntKind.i64.wrap (x2 + 1)) w7 < μ1 x2 w5) ∧
 (¬ x2 < (n2 : Int) →
 Q (.slice A3 (0 + n1) c3) w5)
theorem L_65 (d1 : List Value) (d2 : List Value) (x1 : Int) (A1 : Option Addr) (n1 c1 : Nat) (w : World) (Q : Value → World → Prop) (hp0 : d1.length = 32) (hp1 : d2.length = 12) (h : S_65 d1 d2 x1 A1 n1 c1 w Q) : Ret Tryz.prog 65 #[.agg d1.toArray, .agg d2.toArray, .int .u32 x1, .slice A1 n1 c1] w Q := by
 unfold S_65 at h
 refine ret_of_wp Tryz.func65 rfl (wp_seq (qx (qq (qaf (v := .agg d1.toArray) rfl ?_))))
 intro b1 w1 e1 e2; replace h := h b1 w1 e1 e2
 refine qq (qaf (v := .agg d2.toArray) rfl ?_)
 intro b2 w2 e1 e2; replace h := h b2 w2 e1 e2
 refine qbr (qz (wp_seq (qx ?_)))
 obtain ⟨d3, hl0, hx, h⟩ := h
 refine qq (qaq (cs := d3) rfl Tryz.isAgg22 Tryz.sizeOf22 (by simp [hl0]) hx ?_)
 obtain ⟨d4, hl0, hx, h⟩ := h
 refine qq (qaq (cs := d4) rfl Tryz.isAgg130 Tryz.sizeOf130 (by simp [hl0]) hx ?_)
 refine qbt 4 (qq (qai (args := #[.agg d3.toArray, .agg d4.toArray, .int .u32 x1, .int .i64 (imin (n1 : Int) 1048576)]) rfl Tryz.call79 (Ret.mono h ?_)))
 clear h; rintro r1 w3 ⟨A2, n2, c2, rfl, h⟩
 refine qbr (qz (wp_seq (qx (qbt 1 ?_))))
 obtain ⟨l1, l2, h1, h2, h3, h4, h5, h6, h7, h⟩ := h
 refine qq (qad (A := none) (n := 0) (c := 0) (B := A1) (m := n1) (c2 := c1) (olds := l1) (news := l2) rfl Tryz.underlying62 Tryz.underlying62 Tryz.typeInfo5 rfl (by decide) h1 h2 h3 h4 h5 h6 h7 ?_)
 intro A3 c3 w4 e1; replace h := h A3 c3 w4 e1
 refine qbr (qz (wp_seq (wp_seq (qx (qbr (qz (wp_block ?_)))))))
 obtain ⟨I1, μ1, hI1, hB1⟩ := h
 refine wp_loop_st (σ := Int) (fun s a => ∃ u1 : Nat → Value, a = ⟨#[.agg d1.toArray, .agg d2.toArray, .int .u32 x1, .slice A1 n1 c1, .pointer (some ⟨b1, 0, none⟩), .pointer (some ⟨b2, 0, none⟩), undef, undef, .slice none 0 0, .slice A2 n2 c2, .slice A3 (0 + n1) c3, .int .i64 s, .agg d3.toArray, .agg d4.toArray, .int .u32 x1, .slice A1 n1 c1, .int .i64 (n1 : Int), .int .i64 (imin (n1 : Int) 1048576), .slice A2 n2 c2, .slice A1 n1 c1, .slice A3 (0 + n1) c3, u1 21, u1 22, u1 23, u1 24, u1 25, u1 26, u1 27, u1 28, u1 29, u1 30, u1 31, u1 32, u1 33, u1 34, u1 35, u1 36, u1 37, u1 38, undef], []⟩) (fun s w => I1 s w) (fun s w => μ1 s w) (0) (qaa) hI1 ?_
 rintro x2 a w5 ⟨u1, rfl⟩ hI1
 have h := hB1 x2 w5 hI1
 refine wp_seq (wp_seq (qx (qbr (qz (wp_cond_split (t := (decide (x2 < (n2 : Int)))) (by kernel_rfl) (fun hb => ?_) (fun hb => ?_))))))
 ·replace h := h.1 (of_decide_eq_true hb)
  refine wp_skip (qz (wp_seq (wp_block (qbj (Keep w5) [12] ?_))))
  intro w6 e1; have hK1 := keep_drew e1; replace h := h w6 e1
  refine qbo 0 rfl (qbz (v := .slice A3 (0 + n1) c3)) (qbo 1 rfl (qbz (v := .int .i64 x2)) (qbo 2 rfl (qbz (v := .slice A1 n1 c1)) (qbo 3 rfl (qbz (v := .int .i64 x2)) ?_)))
  obtain ⟨b3, o1, rfl, h⟩ := h
  obtain ⟨h1, h2, h⟩ := h
  refine qbo 4 rfl (qbu (k := .i64) (j := x2) (b := b3) (off := o1) (n := n1) (c := c1) rfl Tryz.underlying62 Tryz.sizeOf5 h1 h2) ?_
  obtain ⟨x3, hx, h⟩ := h
  refine qbn 5 rfl (qbw (v := .int .u8 x3) rfl Tryz.isAgg5 (fun _ hk => keep_cell hk hx)) hK1 ?_
  refine qbo 6 rfl (qbz (v := .slice A2 n2 c2)) (qbo 7 rfl (qbz (v := .int .i64 x2)) ?_)
  obtain ⟨b4, o2, rfl, h⟩ := h
  obtain ⟨h1, h2, h⟩ := h
  refine qbo 8 rfl (qbu (k := .i64) (j := x2) (b := b4) (off := o2) (n := n2) (c := c2) rfl Tryz.underlying62 Tryz.sizeOf5 h1 h2) ?_
  obtain ⟨x4, hx, h⟩ := h
  refine qbn 9 rfl (qbw (v := .int .u8 x4) rfl Tryz.isAgg5 (fun _ hk => keep_cell hk hx)) hK1 ?_
  refine qbo 10 rfl (qbz (v := .int .u8 (bXor .u8 x3 x4))) ?_
  obtain ⟨b5, o3, rfl, h⟩ := h
  obtain ⟨h1, h2, h⟩ := h
  refine qbo 11 rfl (qbu (k := .i64) (j := x2) (b := b5) (off := o3) (n := (0 + n1)) (c := c3) rfl Tryz.underlying62 Tryz.sizeOf5 h1 h2) ?_
  obtain ⟨hc, hf, h⟩ := h
  refine qbm 12 rfl (qbc (v := .int .u8 (bXor .u8 x3 x4)) rfl Tryz.sizeOf5 rfl hc hf ?_)
  intro w7 e1; replace h := h w7 e1
  refine ⟨fun hh => absurd hh (by decide), ?_⟩
  refine qbk (qu (qz (qx (qbr (qz ?_)))))
  exact ⟨((IntKind.i64.wrap (x2 + 1))), qaa, h.1, h.2⟩
 ·replace h := h.2 (of_decide_eq_false hb)
  refine wp_exit (qr (qr (block_exit_eq (qz (wp_seq (qx (qbr (qz (wp_ret ?_)))))))))
  exact qbh (v := .slice A3 (0 + n1) c3) h
def S_66 (x1 x2 : Int) (w : World) (Q : Value → World → Prop) : Prop :=
 ∀ b1 w1, b1 = w.heap.size → w1 = w.alloc (.cells (List.replicate 12 (.int .u8 0 : Value)).toArray 130) →
 ∀ b2 w2, b2 = w1.heap.size → w2 = w1.alloc (.cells (List.replicate 12 (.int .u8 0 : Value)).toArray 130) →
 ∃ (I1 : Int → World → Prop) (μ1 : Int → World → Nat), I1 0 w2 ∧
 ∀ x3 w3, I1 x3 w3 →
 (x3 < 4 →
 0 ≤ (IntKind.i64.wrap (8 * x3)) ∧
 0 ≤ x3 ∧ x3 < 12 ∧
 (w3.cell? ⟨b2, (0 + (x3).toNat * 1), none⟩).isSome = true ∧ w3.frozen? ⟨b2, (0 + (x3).toNat * 1), none⟩ = false ∧
 ∀ w4, w4 = w3.setCell ⟨b2, (0 + (x3).toNat * 1), none⟩ (.int .u8 (IntKind.u8.wrap (iShr .u32 x1 (IntKind.i64.wrap (8 * x3))))) →
 I1 (IntKind.i64.wrap (x3 + 1)) w4 ∧ μ1 (IntKind.i64.wrap (x3 + 1)) w4 < μ1 x3 w3) ∧
 (¬ x3 < 4 →
 ∃ (I2 : Int → World → Prop) (μ2 : Int → World → Nat), I2 0 w3 ∧
 ∀ x4 w5, I2 x4 w5 →
 (x4 < 8 →
 0 ≤ (IntKind.i64.wrap (8 * x4)) ∧
 0 ≤ (IntKind.i64.wrap (4 + x4)) ∧ (IntKind.i64.wrap (4 + x4)) < 12 ∧
 (w5.cell? ⟨b2, (0 + ((IntKind.i64.wrap (4 + x4))).toNat * 1), none⟩).isSome = true ∧ w5.frozen? ⟨b2, (0 + ((IntKind.i64.wrap (4 + x4))).toNat * 1), none⟩ = false ∧
 ∀ w6, w6 = w5.setCell ⟨b2, (0 + ((IntKind.i64.wrap (4 + x4))).toNat * 1), none⟩ (.int .u8 (IntKind.u8.wrap (iShr .u64 x2 (IntKind.i64.wrap (8 * x4))))) →
 I2 (IntKind.i64.wrap (x4 + 1)) w6 ∧ μ2 (IntKind.i64.wrap (x4 + 1)) w6 < μ2 x4 w5) ∧
 (¬ x4 < 8 →
 ∃ (d1 : List Value), d1.length = 12 ∧ w5.rangeAt b2 0 d1 ∧
 d1.length = 12 ∧ One d1 ∧ w5.there b1 0 12 ∧
 ∀ w7, w7 = w5.setCells b1 0 d1 →
 ∃ (d2 : List Value), d2.length = 12 ∧ w7.rangeAt b1 0 d2 ∧ Q (.agg d2.toArray) w7))
theorem L_66 (x1 x2 : Int) (w : World) (Q : Value → World → Prop) (h : S_66 x1 x2 w Q) : Ret Tryz.prog 66 #[.int .u32 x1, .int .u64 x2] w Q := by
 unfold S_66 at h
 refine ret_of_wp Tryz.func66 rfl (wp_seq (qx (qq (qac rfl Tryz.zeroValue130 ?_))))
 intro b1 w1 e1 e2; replace h := h b1 w1 e1 e2
 refine qo (qz (wp_seq (qx (qq (qac rfl Tryz.zeroValue130 ?_)))))
 intro b2 w2 e1 e2; replace h := h b2 w2 e1 e2
 refine qo (qz (wp_seq (wp_seq (qx (qbr (qz (wp_block ?_)))))))
 obtain ⟨I1, μ1, hI1, hB1⟩ := h
 refine wp_loop_st (σ := Int) (fun s a => ∃ u1 : Nat → Value, a = ⟨#[.int .u32 x1, .int .u64 x2, undef, undef, .pointer (some ⟨b1, 0, none⟩), .pointer (some ⟨b2, 0, none⟩), .int .i64 s, undef, u1 8, u1 9, u1 10, u1 11, u1 12, u1 13, u1 14, u1 15, u1 16, u1 17, u1 18, undef, undef, undef, undef, undef, undef, undef, undef, undef, undef, undef, undef, undef], []⟩) (fun s w => I1 s w) (fun s w => μ1 s w) (0) (qaa) hI1 ?_
 rintro x3 a w3 ⟨u1, rfl⟩ hI1
 have h := hB1 x3 w3 hI1
 refine wp_seq (wp_seq (qx (qbr (qz (wp_cond_split (t := (decide (x3 < 4))) (by kernel_rfl) (fun hb => ?_) (fun hb => ?_))))))
 ·replace h := h.1 (of_decide_eq_true hb)
  refine wp_skip (qz (wp_seq (wp_block (qx (qbt 4 ?_)))))
  obtain ⟨h1, h⟩ := h
  refine qq (qaz (k := .u32) (k2 := .i64) (x := x1) (y := (IntKind.i64.wrap (8 * x3))) rfl h1 ?_)
  refine qbt 1 ?_
  obtain ⟨h1, h2, h⟩ := h
  refine qq (qao (k := .i64) (j := x3) (b := b2) (off := 0) rfl Tryz.underlying130 Tryz.sizeOf5 h1 h2 ?_)
  obtain ⟨hc, hf, h⟩ := h
  refine qq (qbc (v := .int .u8 (IntKind.u8.wrap (iShr .u32 x1 (IntKind.i64.wrap (8 * x3))))) rfl Tryz.sizeOf5 rfl hc hf ?_)
  intro w4 e1; replace h := h w4 e1
  refine qo (qu (qz (qx (qbr (qz ?_)))))
  exact ⟨((IntKind.i64.wrap (x3 + 1))), qaa, h.1, h.2⟩
 ·replace h := h.2 (of_decide_eq_false hb)
  refine wp_exit (qr (qr (block_exit_eq (qz (wp_seq (wp_seq (qx (qbr (qz (wp_block ?_))))))))))
  obtain ⟨I2, μ2, hI2, hB2⟩ := h
  refine wp_loop_st (σ := Int) (fun s a => ∃ u2 : Nat → Value, a = ⟨#[.int .u32 x1, .int .u64 x2, undef, undef, .pointer (some ⟨b1, 0, none⟩), .pointer (some ⟨b2, 0, none⟩), .int .i64 x3, .int .i64 s, .int .i64 x3, .bool (decide (x3 < 4)), u1 10, u1 11, u1 12, u1 13, u1 14, u1 15, u1 16, u1 17, u1 18, u2 19, u2 20, u2 21, u2 22, u2 23, u2 24, u2 25, u2 26, u2 27, u2 28, u2 29, u2 30, undef], []⟩) (fun s w => I2 s w) (fun s w => μ2 s w) (0) (qaa) hI2 ?_
  rintro x4 a w5 ⟨u2, rfl⟩ hI2
  have h := hB2 x4 w5 hI2
  refine wp_seq (wp_seq (qx (qbr (qz (wp_cond_split (t := (decide (x4 < 8))) (by kernel_rfl) (fun hb => ?_) (fun hb => ?_))))))
  ·replace h := h.1 (of_decide_eq_true hb)
   refine wp_skip (qz (wp_seq (wp_block (qx (qbt 5 ?_)))))
   obtain ⟨h1, h⟩ := h
   refine qq (qaz (k := .u64) (k2 := .i64) (x := x2) (y := (IntKind.i64.wrap (8 * x4))) rfl h1 ?_)
   refine qbt 1 ?_
   obtain ⟨h1, h2, h⟩ := h
   refine qq (qao (k := .i64) (j := (IntKind.i64.wrap (4 + x4))) (b := b2) (off := 0) rfl Tryz.underlying130 Tryz.sizeOf5 h1 h2 ?_)
   obtain ⟨hc, hf, h⟩ := h
   refine qq (qbc (v := .int .u8 (IntKind.u8.wrap (iShr .u64 x2 (IntKind.i64.wrap (8 * x4))))) rfl Tryz.sizeOf5 rfl hc hf ?_)
   intro w6 e1; replace h := h w6 e1
   refine qo (qu (qz (qx (qbr (qz ?_)))))
   exact ⟨((IntKind.i64.wrap (x4 + 1))), qaa, h.1, h.2⟩
  ·replace h := h.2 (of_decide_eq_false hb)
   refine wp_exit (qr (qr (block_exit_eq (qz (wp_seq (qx ?_))))))
   obtain ⟨d1, hl0, hx, h⟩ := h
   refine qq (qaq (cs := d1) rfl Tryz.isAgg130 Tryz.sizeOf130 (by simp [hl0]) hx ?_)
   obtain ⟨hl, h1, hw, h⟩ := h
   refine qq (qbd (cs := d1) rfl Tryz.sizeOf130 hl h1 hw ?_)
   intro w7 e1; replace h := h w7 e1
   refine qo (qz (wp_ret ?_))
   obtain ⟨d2, hl0_0, hx0, h⟩ := h
   exact qbi (vs := [.agg d2.toArray]) (v := .agg d2.toArray) Tryz.results66 ⟨⟨b1, 0, by kernel_rfl, run_loadN Tryz.isAgg130 Tryz.sizeOf130 (by simp [hl0_0]) hx0⟩, trivial⟩ h
def S_75 (d1 : List Value) (d2 : List Value) (x1 : Int) (A1 : Option Addr) (n1 c1 : Nat) (w : World) (Q : Value → World → Prop) : Prop :=
 ∀ b1 w1, b1 = w.heap.size → w1 = w.alloc (.cells d1.toArray 22) →
 ∀ b2 w2, b2 = w1.heap.size → w2 = w1.alloc (.cells d2.toArray 130) →
 ∃ l1 l2 : List Value, (0 + n1) * 1 ≤ 140737488355328 ∧ l1.length = 0 * 1 ∧ RdS w2 none l1 ∧ l2.length = n1 * 1 ∧ RdS w2 A1 l2 ∧ One l2 ∧ (0 + n1 ≤ 0 → Room w2 none (0 * 1) (n1 * 1)) ∧
 ∀ A2 c2 w3, Appended w2 5 1 #[.int .u8 0] none 0 0 n1 l1 l2 A2 c2 w3 →
 ∃ (I1 : Int → Int → World → Prop) (μ1 : Int → Int → World → Nat), I1 x1 0 w3 ∧
 ∀ x2 x3 w4, I1 x2 x3 w4 →
 (x3 < (imin (((0 + n1) : Nat) : Int) 1048576) →
 ∃ (d3 : List Value), d3.length = 32 ∧ w4.rangeAt b1 0 d3 ∧
 ∃ (d4 : List Value), d4.length = 12 ∧ w4.rangeAt b2 0 d4 ∧
 Ret Tryz.prog 95 #[.agg d3.toArray, .agg d4.toArray, .int .u32 x2] w4 fun r1 w5 => ∃ (d5 : List Value), r1 = .agg d5.toArray ∧ d5.length = 64 ∧
 ∀ b3 w6, b3 = w5.heap.size → w6 = w5.alloc (.cells (List.replicate 64 (.int .u8 0 : Value)).toArray 160) →
 d5.length = 64 ∧ One d5 ∧ w6.there b3 0 64 ∧
 ∀ w7, w7 = w6.setCells b3 0 d5 →
 (0 : Int) ≤ x3 ∧ (x3 : Int) ≤ (imin (IntKind.i64.wrap (x3 + 64)) (((0 + n1) : Nat) : Int)) ∧ ((imin (IntKind.i64.wrap (x3 + 64)) (((0 + n1) : Nat) : Int)) : Int) ≤ (c2 : Int) ∧ ((c2 : Int) : Int) ≤ (c2 : Int) ∧
 ∀ A3, A3 = cutA A2 ((x3).toNat) c2 1 →
 ∃ (I2 : Int → World → Prop) (μ2 : Int → World → Nat), I2 0 w7 ∧
 ∀ x4 w8, I2 x4 w8 →
 (x4 < ((((((imin (IntKind.i64.wrap (x3 + 64)) (((0 + n1) : Nat) : Int))).toNat) - ((x3).toNat)) : Nat) : Int) →
 ∀ w9, w9 = w8.drew →
 ∃ b4 o1, A2 = some ⟨b4, o1, none⟩ ∧ (0 : Int) ≤ (IntKind.i64.wrap (x3 + x4)) ∧ (IntKind.i64.wrap (x3 + x4)) < (((0 + n1) : Nat) : Int) ∧
 ∃ x5, w8.cell? ⟨b4, (o1 + ((IntKind.i64.wrap (x3 + x4))).toNat * 1), none⟩ = some (.int .u8 x5) ∧
 0 ≤ x4 ∧ x4 < 64 ∧
 ∃ x6, w8.cell? ⟨b3, (0 + (x4).toNat * 1), none⟩ = some (.int .u8 x6) ∧
 (0 : Int) ≤ (IntKind.i64.wrap (x3 + x4)) ∧ (IntKind.i64.wrap (x3 + x4)) < (((0 + n1) : Nat) : Int) ∧
 (w9.cell? ⟨b4, (o1 + ((IntKind.i64.wrap (x3 + x4))).toNat * 1), none⟩).isSome = true ∧ w9.frozen? ⟨b4, (o1 + ((IntKind.i64.wrap (x3 + x4))).toNat * 1), none⟩ = false ∧
 ∀ w10, w10 = w9.setCell ⟨b4, (o1 + ((IntKind.i64.wrap (x3 + x4))).toNat * 1), none⟩ (.int .u8 (bXor .u8 x5 x6)) →
 I2 (IntKind.i64.wrap (x4 + 1)) w10 ∧ μ2 (IntKind.i64.wrap (x4 + 1)) w10 < μ2 x4 w8) ∧
 (¬ x4 < ((((((imin (IntKind.i64.wrap (x3 + 64)) (((0 + n1) : Nat) : Int))).toNat) - ((x3).toNat)) : Nat) : Int) →
 I1 (IntKind.u32.wrap (x2 + 1)) (IntKind.i64.wrap (x3 + 64)) w8 ∧ μ1 (IntKind.u32.wrap (x2 + 1)) (IntKind.i64.wrap (x3 + 64)) w8 < μ1 x2 x3 w4)) ∧
 (¬ x3 < (imin (((0 + n1) : Nat) : Int) 1048576) →
 Q (.slice A2 (0 + n1) c2) w4)
theorem L_75 (d1 : List Value) (d2 : List Value) (x1 : Int) (A1 : Option Addr) (n1 c1 : Nat) (w : World) (Q : Value → World → Prop) (hp0 : d1.length = 32) (hp1 : d2.length = 12) (h : S_75 d1 d2 x1 A1 n1 c1 w Q) : Ret Tryz.prog 75 #[.agg d1.toArray, .agg d2.toArray, .int .u32 x1, .slice A1 n1 c1] w Q := by
 unfold S_75 at h
 refine ret_of_wp Tryz.func75 rfl (wp_seq (qx (qq (qaf (v := .agg d1.toArray) rfl ?_))))
 intro b1 w1 e1 e2; replace h := h b1 w1 e1 e2
 refine qq (qaf (v := .agg d2.toArray) rfl ?_)
 intro b2 w2 e1 e2; replace h := h b2 w2 e1 e2
 refine qbr (qz (wp_seq (qx (qbt 1 ?_))))
 obtain ⟨l1, l2, h1, h2, h3, h4, h5, h6, h7, h⟩ := h
 refine qq (qad (A := none) (n := 0) (c := 0) (B := A1) (m := n1) (c2 := c1) (olds := l1) (news := l2) rfl Tryz.underlying62 Tryz.underlying62 Tryz.typeInfo5 rfl (by decide) h1 h2 h3 h4 h5 h6 h7 ?_)
 intro A2 c2 w3 e1; replace h := h A2 c2 w3 e1
 refine qbr (qz (wp_seq (wp_seq (qx (qbr (qz (wp_block ?_)))))))
 obtain ⟨I1, μ1, hI1, hB1⟩ := h
 refine wp_loop_st (σ := Int × Int) (fun s a => ∃ u1 : Nat → Value, a = ⟨#[.agg d1.toArray, .agg d2.toArray, .int .u32 s.1, .slice A1 n1 c1, .pointer (some ⟨b1, 0, none⟩), .pointer (some ⟨b2, 0, none⟩), undef, undef, .slice none 0 0, .slice A2 (0 + n1) c2, .int .i64 s.2, u1 11, u1 12, .slice A1 n1 c1, .slice A2 (0 + n1) c2, u1 15, u1 16, u1 17, u1 18, u1 19, u1 20, u1 21, u1 22, u1 23, u1 24, u1 25, u1 26, u1 27, u1 28, u1 29, u1 30, u1 31, u1 32, u1 33, u1 34, u1 35, u1 36, u1 37, u1 38, u1 39, u1 40, u1 41, u1 42, u1 43, u1 44, u1 45, u1 46, u1 47, u1 48, u1 49, u1 50, u1 51, undef], []⟩) (fun s w => I1 s.1 s.2 w) (fun s w => μ1 s.1 s.2 w) (x1, 0) (qaa) hI1 ?_
 rintro ⟨x2, x3⟩ a w4 ⟨u1, rfl⟩ hI1
 have h := hB1 x2 x3 w4 hI1
 refine wp_seq (wp_seq (qx (qbr (qz (wp_cond_split (t := (decide (x3 < (imin (((0 + n1) : Nat) : Int) 1048576)))) (by kernel_rfl) (fun hb => ?_) (fun hb => ?_))))))
 ·replace h := h.1 (of_decide_eq_true hb)
  refine wp_skip (qz (wp_seq (wp_block (wp_seq (qx ?_)))))
  obtain ⟨d3, hl0, hx, h⟩ := h
  refine qq (qaq (cs := d3) rfl Tryz.isAgg22 Tryz.sizeOf22 (by simp [hl0]) hx ?_)
  obtain ⟨d4, hl0, hx, h⟩ := h
  refine qq (qaq (cs := d4) rfl Tryz.isAgg130 Tryz.sizeOf130 (by simp [hl0]) hx ?_)
  refine qbt 1 (qq (qai (args := #[.agg d3.toArray, .agg d4.toArray, .int .u32 x2]) rfl Tryz.call95 (Ret.mono h ?_)))
  clear h; rintro r1 w5 ⟨d5, rfl, hl0, h⟩
  refine qq (qac rfl Tryz.zeroValue160 ?_)
  intro b3 w6 e1 e2; replace h := h b3 w6 e1 e2
  obtain ⟨hl, h1, hw, h⟩ := h
  refine qq (qbd (cs := d5) rfl Tryz.sizeOf160 hl h1 hw ?_)
  intro w7 e1; replace h := h w7 e1
  refine qo (qz (wp_seq (wp_seq (qx (qbt 7 ?_)))))
  obtain ⟨h1, h2, h3, h4, h⟩ := h
  refine qq (qba (A := A2) (n := (0 + n1)) (c := c2) (lo := x3) (hi := (imin (IntKind.i64.wrap (x3 + 64)) (((0 + n1) : Nat) : Int))) (mx := (c2 : Int)) rfl (.inr ⟨_, .i64, rfl, by kernel_rfl⟩) (.inr ⟨_, .i64, rfl, by kernel_rfl⟩) (.inl ⟨rfl, rfl⟩) (by simp) Tryz.underlying62 Tryz.sizeOf5 h1 h2 h3 h4 ?_)
  intro A3 e1; replace h := h A3 e1
  refine qbr (qz (wp_block ?_))
  obtain ⟨I2, μ2, hI2, hB2⟩ := h
  refine wp_loop_st (σ := Int) (fun s a => ∃ u2 : Nat → Value, a = ⟨#[.agg d1.toArray, .agg d2.toArray, .int .u32 x2, .slice A1 n1 c1, .pointer (some ⟨b1, 0, none⟩), .pointer (some ⟨b2, 0, none⟩), undef, undef, .slice none 0 0, .slice A2 (0 + n1) c2, .int .i64 x3, .pointer (some ⟨b3, 0, none⟩), u2 12, .slice A1 n1 c1, .slice A2 (0 + n1) c2, .int .i64 x3, .slice A2 (0 + n1) c2, .int .i64 (((0 + n1) : Nat) : Int), .int .i64 (imin (((0 + n1) : Nat) : Int) 1048576), .bool (decide (x3 < (imin (((0 + n1) : Nat) : Int) 1048576))), u1 20, u1 21, .agg d3.toArray, .agg d4.toArray, .int .u32 x2, .agg d5.toArray, .slice A2 (0 + n1) c2, .int .i64 x3, .int .i64 x3, .int .i64 (IntKind.i64.wrap (x3 + 64)), .slice A2 (0 + n1) c2, .int .i64 (((0 + n1) : Nat) : Int), .int .i64 (imin (IntKind.i64.wrap (x3 + 64)) (((0 + n1) : Nat) : Int)), .slice A3 ((((imin (IntKind.i64.wrap (x3 + 64)) (((0 + n1) : Nat) : Int))).toNat) - ((x3).toNat)) (c2 - ((x3).toNat)), .int .i64 ((((((imin (IntKind.i64.wrap (x3 + 64)) (((0 + n1) : Nat) : Int))).toNat) - ((x3).toNat)) : Nat) : Int), .int .i64 s, u2 36, u2 37, u2 38, u2 39, u2 40, u2 41, u2 42, u2 43, u2 44, u2 45, u2 46, u2 47, u2 48, u2 49, u1 50, u1 51, undef], []⟩) (fun s w => I2 s w) (fun s w => μ2 s w) (0) (qaa) hI2 ?_
  rintro x4 a w8 ⟨u2, rfl⟩ hI2
  have h := hB2 x4 w8 hI2
  refine wp_seq (qx (qbr (qz (wp_seq (wp_cond_split (t := (decide (x4 < ((((((imin (IntKind.i64.wrap (x3 + 64)) (((0 + n1) : Nat) : Int))).toNat) - ((x3).toNat)) : Nat) : Int)))) (by kernel_rfl) (fun hb => ?_) (fun hb => ?_))))))
  ·replace h := h.1 (of_decide_eq_true hb)
   refine wp_skip (qz (wp_seq (wp_block (wp_seq (qx (qbr (qz (qbj (Keep w8) [11] ?_))))))))
   intro w9 e1; have hK1 := keep_drew e1; replace h := h w9 e1
   refine qbo 0 rfl (qbz (v := .slice A2 (0 + n1) c2)) (qbo 1 rfl (qbz (v := .int .i64 x3)) (qbo 2 rfl (qbz (v := .int .i64 x4)) (qbo 3 rfl (qbz (v := .int .i64 (IntKind.i64.wrap (x3 + x4)))) ?_)))
   obtain ⟨b4, o1, rfl, h⟩ := h
   obtain ⟨h1, h2, h⟩ := h
   refine qbo 4 rfl (qbu (k := .i64) (j := (IntKind.i64.wrap (x3 + x4))) (b := b4) (off := o1) (n := (0 + n1)) (c := c2) rfl Tryz.underlying62 Tryz.sizeOf5 h1 h2) ?_
   obtain ⟨x5, hx, h⟩ := h
   refine qbn 5 rfl (qbw (v := .int .u8 x5) rfl Tryz.isAgg5 (fun _ hk => keep_cell hk hx)) hK1 ?_
   refine qbo 6 rfl (qbz (v := .int .i64 x4)) ?_
   obtain ⟨h1, h2, h⟩ := h
   refine qbo 7 rfl (qbv (k := .i64) (j := x4) (b := b3) (off := 0) rfl Tryz.underlying160 Tryz.sizeOf5 h1 h2) ?_
   obtain ⟨x6, hx, h⟩ := h
   refine qbn 8 rfl (qbw (v := .int .u8 x6) rfl Tryz.isAgg5 (fun _ hk => keep_cell hk hx)) hK1 ?_
   refine qbo 9 rfl (qbz (v := .int .u8 (bXor .u8 x5 x6))) ?_
   obtain ⟨h1, h2, h⟩ := h
   refine qbo 10 rfl (qbu (k := .i64) (j := (IntKind.i64.wrap (x3 + x4))) (b := b4) (off := o1) (n := (0 + n1)) (c := c2) rfl Tryz.underlying62 Tryz.sizeOf5 h1 h2) ?_
   obtain ⟨hc, hf, h⟩ := h
   refine qbm 11 rfl (qbc (v := .int .u8 (bXor .u8 x5 x6)) rfl Tryz.sizeOf5 rfl hc hf ?_)
   intro w10 e1; replace h := h w10 e1
   refine ⟨fun hh => absurd hh (by decide), ?_⟩
   refine qbk (qu (qz (qx (qbr (qz ?_)))))
   exact ⟨((IntKind.i64.wrap (x4 + 1))), qaa, h.1, h.2⟩
  ·replace h := h.2 (of_decide_eq_false hb)
   refine wp_exit (qr (qr (block_exit_eq (qz (qx (qbr (qu (qz (qx (qbr (qz ?_)))))))))))
   exact ⟨((IntKind.u32.wrap (x2 + 1)), (IntKind.i64.wrap (x3 + 64))), qaa, h.1, h.2⟩
 ·replace h := h.2 (of_decide_eq_false hb)
  refine wp_exit (qr (qr (block_exit_eq (qz (wp_seq (qx (qbr (qz (wp_ret ?_)))))))))
  exact qbh (v := .slice A2 (0 + n1) c2) h
def S_76 (x1 x2 : Int) (w : World) (Q : Value → World → Prop) : Prop :=
 ∀ b1 w1, b1 = w.heap.size → w1 = w.alloc (.cells (List.replicate 12 (.int .u8 0 : Value)).toArray 130) →
 ∀ b2 w2, b2 = w1.heap.size → w2 = w1.alloc (.cells (List.replicate 12 (.int .u8 0 : Value)).toArray 130) →
 ∃ (I1 : Int → World → Prop) (μ1 : Int → World → Nat), I1 0 w2 ∧
 ∀ x3 w3, I1 x3 w3 →
 (x3 < 12 →
 (x3 < 4 →
 0 ≤ (IntKind.i64.wrap (8 * x3)) ∧
 0 ≤ x3 ∧ x3 < 12 ∧
 (w3.cell? ⟨b2, (0 + (x3).toNat * 1), none⟩).isSome = true ∧ w3.frozen? ⟨b2, (0 + (x3).toNat * 1), none⟩ = false ∧
 ∀ w4, w4 = w3.setCell ⟨b2, (0 + (x3).toNat * 1), none⟩ (.int .u8 (IntKind.u8.wrap (iShr .u32 x1 (IntKind.i64.wrap (8 * x3))))) →
 I1 (IntKind.i64.wrap (x3 + 1)) w4 ∧ μ1 (IntKind.i64.wrap (x3 + 1)) w4 < μ1 x3 w3) ∧
 (¬ x3 < 4 →
 0 ≤ (IntKind.i64.wrap (8 * (IntKind.i64.wrap (x3 - 4)))) ∧
 0 ≤ x3 ∧ x3 < 12 ∧
 (w3.cell? ⟨b2, (0 + (x3).toNat * 1), none⟩).isSome = true ∧ w3.frozen? ⟨b2, (0 + (x3).toNat * 1), none⟩ = false ∧
 ∀ w5, w5 = w3.setCell ⟨b2, (0 + (x3).toNat * 1), none⟩ (.int .u8 (IntKind.u8.wrap (iShr .u64 x2 (IntKind.i64.wrap (8 * (IntKind.i64.wrap (x3 - 4))))))) →
 I1 (IntKind.i64.wrap (x3 + 1)) w5 ∧ μ1 (IntKind.i64.wrap (x3 + 1)) w5 < μ1 x3 w3)) ∧
 (¬ x3 < 12 →
 ∃ (d1 : List Value), d1.length = 12 ∧ w3.rangeAt b2 0 d1 ∧
 d1.length = 12 ∧ One d1 ∧ w3.there b1 0 12 ∧
 ∀ w6, w6 = w3.setCells b1 0 d1 →
 ∃ (d2 : List Value), d2.length = 12 ∧ w6.rangeAt b1 0 d2 ∧ Q (.agg d2.toArray) w6)
theorem L_76 (x1 x2 : Int) (w : World) (Q : Value → World → Prop) (h : S_76 x1 x2 w Q) : Ret Tryz.prog 76 #[.int .u32 x1, .int .u64 x2] w Q := by
 unfold S_76 at h
 refine ret_of_wp Tryz.func76 rfl (wp_seq (qx (qq (qac rfl Tryz.zeroValue130 ?_))))
 intro b1 w1 e1 e2; replace h := h b1 w1 e1 e2
 refine qo (qz (wp_seq (qx (qq (qac rfl Tryz.zeroValue130 ?_)))))
 intro b2 w2 e1 e2; replace h := h b2 w2 e1 e2
 refine qo (qz (wp_seq (wp_seq (qx (qbr (qz (wp_block ?_)))))))
 obtain ⟨I1, μ1, hI1, hB1⟩ := h
 refine wp_loop_st (σ := Int) (fun s a => ∃ u1 : Nat → Value, a = ⟨#[.int .u32 x1, .int .u64 x2, undef, undef, .pointer (some ⟨b1, 0, none⟩), .pointer (some ⟨b2, 0, none⟩), u1 6, .int .i64 s, u1 8, u1 9, u1 10, u1 11, u1 12, u1 13, u1 14, u1 15, u1 16, u1 17, u1 18, u1 19, u1 20, u1 21, u1 22, u1 23, u1 24, u1 25, u1 26, u1 27, undef], []⟩) (fun s w => I1 s w) (fun s w => μ1 s w) (0) (qaa) hI1 ?_
 rintro x3 a w3 ⟨u1, rfl⟩ hI1
 have h := hB1 x3 w3 hI1
 refine wp_seq (qx (qbr (qz (wp_seq (wp_cond_split (t := (decide (x3 < 12))) (by kernel_rfl) (fun hb => ?_) (fun hb => ?_))))))
 ·replace h := h.1 (of_decide_eq_true hb)
  refine wp_skip (qz (wp_seq (wp_block (wp_seq (qx (qbr (qz (wp_seq (qx (qbr (qz (wp_cond_split (t := (decide (x3 < 4))) (by kernel_rfl) (fun hb => ?_) (fun hb => ?_)))))))))))))
  ·replace h := h.1 (of_decide_eq_true hb)
   refine qx (qbt 4 ?_)
   obtain ⟨h1, h⟩ := h
   refine qq (qaz (k := .u32) (k2 := .i64) (x := x1) (y := (IntKind.i64.wrap (8 * x3))) rfl h1 ?_)
   refine qbt 1 ?_
   obtain ⟨h1, h2, h⟩ := h
   refine qq (qao (k := .i64) (j := x3) (b := b2) (off := 0) rfl Tryz.underlying130 Tryz.sizeOf5 h1 h2 ?_)
   obtain ⟨hc, hf, h⟩ := h
   refine qq (qbc (v := .int .u8 (IntKind.u8.wrap (iShr .u32 x1 (IntKind.i64.wrap (8 * x3))))) rfl Tryz.sizeOf5 rfl hc hf ?_)
   intro w4 e1; replace h := h w4 e1
   refine qo (qu (qz (qx (qbr (qz ?_)))))
   exact ⟨((IntKind.i64.wrap (x3 + 1))), qaa, h.1, h.2⟩
  ·replace h := h.2 (of_decide_eq_false hb)
   refine qx (qbt 5 ?_)
   obtain ⟨h1, h⟩ := h
   refine qq (qaz (k := .u64) (k2 := .i64) (x := x2) (y := (IntKind.i64.wrap (8 * (IntKind.i64.wrap (x3 - 4))))) rfl h1 ?_)
   refine qbt 1 ?_
   obtain ⟨h1, h2, h⟩ := h
   refine qq (qao (k := .i64) (j := x3) (b := b2) (off := 0) rfl Tryz.underlying130 Tryz.sizeOf5 h1 h2 ?_)
   obtain ⟨hc, hf, h⟩ := h
   refine qq (qbc (v := .int .u8 (IntKind.u8.wrap (iShr .u64 x2 (IntKind.i64.wrap (8 * (IntKind.i64.wrap (x3 - 4))))))) rfl Tryz.sizeOf5 rfl hc hf ?_)
   intro w5 e1; replace h := h w5 e1
   refine qo (qu (qz (qx (qbr (qz ?_)))))
   exact ⟨((IntKind.i64.wrap (x3 + 1))), qaa, h.1, h.2⟩
 ·replace h := h.2 (of_decide_eq_false hb)
  refine wp_exit (qr (qr (block_exit_eq (qz (wp_seq (qx ?_))))))
  obtain ⟨d1, hl0, hx, h⟩ := h
  refine qq (qaq (cs := d1) rfl Tryz.isAgg130 Tryz.sizeOf130 (by simp [hl0]) hx ?_)
  obtain ⟨hl, h1, hw, h⟩ := h
  refine qq (qbd (cs := d1) rfl Tryz.sizeOf130 hl h1 hw ?_)
  intro w6 e1; replace h := h w6 e1
  refine qo (qz (wp_ret ?_))
  obtain ⟨d2, hl0_0, hx0, h⟩ := h
  exact qbi (vs := [.agg d2.toArray]) (v := .agg d2.toArray) Tryz.results76 ⟨⟨b1, 0, by kernel_rfl, run_loadN Tryz.isAgg130 Tryz.sizeOf130 (by simp [hl0_0]) hx0⟩, trivial⟩ h
def S_79 (d1 : List Value) (d2 : List Value) (x1 x2 : Int) (w : World) (Q : Value → World → Prop) : Prop :=
 ∀ b1 w1, b1 = w.heap.size → w1 = w.alloc (.cells d1.toArray 22) →
 ∀ b2 w2, b2 = w1.heap.size → w2 = w1.alloc (.cells d2.toArray 130) →
 (x2 < 0 →
 Q (.slice none 0 0) w2) ∧
 (¬ x2 < 0 →
 (x2 > 1048576 →
 Q (.slice none 0 0) w2) ∧
 (¬ x2 > 1048576 →
 ∃ (I1 : Int → (Option Addr) → Nat → Nat → World → Prop) (μ1 : Int → (Option Addr) → Nat → Nat → World → Nat), I1 x1 none 0 0 w2 ∧
 ∀ x3 A1 n1 c1 w3, I1 x3 A1 n1 c1 w3 →
 ((n1 : Int) < x2 →
 ∃ (d3 : List Value), d3.length = 32 ∧ w3.rangeAt b1 0 d3 ∧
 ∃ (d4 : List Value), d4.length = 12 ∧ w3.rangeAt b2 0 d4 ∧
 Ret Tryz.prog 99 #[.agg d3.toArray, .agg d4.toArray, .int .u32 x3] w3 fun r1 w4 => ∃ (d5 : List Value), r1 = .agg d5.toArray ∧ d5.length = 64 ∧
 ∀ b3 w5, b3 = w4.heap.size → w5 = w4.alloc (.cells (List.replicate 64 (.int .u8 0 : Value)).toArray 160) →
 d5.length = 64 ∧ One d5 ∧ w5.there b3 0 64 ∧
 ∀ w6, w6 = w5.setCells b3 0 d5 →
 (0 : Int) ≤ 0 ∧ (0 : Int) ≤ 64 ∧ (64 : Int) ≤ 64 ∧ (64 : Int) ≤ 64 ∧
 ∀ A2, A2 = cutA (some ⟨b3, 0, none⟩) 0 64 1 →
 ∃ l1 l2 : List Value, (n1 + (64 - 0)) * 1 ≤ 140737488355328 ∧ l1.length = n1 * 1 ∧ RdS w6 A1 l1 ∧ l2.length = (64 - 0) * 1 ∧ RdS w6 A2 l2 ∧ One l2 ∧ (n1 + (64 - 0) ≤ c1 → Room w6 A1 (n1 * 1) ((64 - 0) * 1)) ∧
 ∀ A3 c2 w7, Appended w6 5 1 #[.int .u8 0] A1 n1 c1 (64 - 0) l1 l2 A3 c2 w7 →
 I1 (IntKind.u32.wrap (x3 + 1)) A3 (n1 + (64 - 0)) c2 w7 ∧ μ1 (IntKind.u32.wrap (x3 + 1)) A3 (n1 + (64 - 0)) c2 w7 < μ1 x3 A1 n1 c1 w3) ∧
 (¬ (n1 : Int) < x2 →
 (0 : Int) ≤ 0 ∧ (0 : Int) ≤ x2 ∧ (x2 : Int) ≤ (c1 : Int) ∧ ((c1 : Int) : Int) ≤ (c1 : Int) ∧
 ∀ A4, A4 = cutA A1 0 c1 1 →
 Q (.slice A4 (((x2).toNat) - 0) (c1 - 0)) w3)))
theorem L_79 (d1 : List Value) (d2 : List Value) (x1 x2 : Int) (w : World) (Q : Value → World → Prop) (hp0 : d1.length = 32) (hp1 : d2.length = 12) (h : S_79 d1 d2 x1 x2 w Q) : Ret Tryz.prog 79 #[.agg d1.toArray, .agg d2.toArray, .int .u32 x1, .int .i64 x2] w Q := by
 unfold S_79 at h
 refine ret_of_wp Tryz.func79 rfl (wp_seq (qx (qq (qaf (v := .agg d1.toArray) rfl ?_))))
 intro b1 w1 e1 e2; replace h := h b1 w1 e1 e2
 refine qq (qaf (v := .agg d2.toArray) rfl ?_)
 intro b2 w2 e1 e2; replace h := h b2 w2 e1 e2
 refine qbr (qz (wp_seq (wp_seq (qx (qbt 3 (wl_split (e := (decide (x2 < 0))) ?_ ?_))))))
 ·intro hb; refine qbs 13 (e := (decide (x2 < 0))) (b := true) hb ?_
  replace h := h.1 (of_decide_eq_true hb)
  refine qbr (qz (wp_cond_true (by kernel_rfl) (wp_seq (qx (qbr (qz (wp_ret (qs ?_))))))))
  exact qbh (v := .slice none 0 0) h
 ·intro hb; refine qbs 13 (e := (decide (x2 < 0))) (b := false) hb ?_
  replace h := h.2 (of_decide_eq_false hb)
  refine qbr (qz (wp_cond_split (t := (decide (x2 > 1048576))) (by kernel_rfl) (fun hb => ?_) (fun hb => ?_)))
  ·replace h := h.1 (of_decide_eq_true hb)
   refine wp_seq (qx (qbr (qz (wp_ret (qs ?_)))))
   exact qbh (v := .slice none 0 0) h
  ·replace h := h.2 (of_decide_eq_false hb)
   refine wp_skip (qz (wp_seq (qx (qbr (qz (wp_seq (wp_block ?_)))))))
   obtain ⟨I1, μ1, hI1, hB1⟩ := h
   refine wp_loop_st (σ := Int × (Option Addr) × Nat × Nat) (fun s a => ∃ u1 : Nat → Value, a = ⟨#[.agg d1.toArray, .agg d2.toArray, .int .u32 s.1, .int .i64 x2, .pointer (some ⟨b1, 0, none⟩), .pointer (some ⟨b2, 0, none⟩), undef, undef, .slice none 0 0, .slice s.2.1 s.2.2.1 s.2.2.2, u1 10, .int .i64 x2, .bool (decide (x2 < 0)), .bool false, .int .i64 x2, .bool (decide (x2 > 1048576)), .bool (decide (x2 > 1048576)), u1 17, u1 18, u1 19, u1 20, u1 21, u1 22, u1 23, u1 24, u1 25, u1 26, u1 27, u1 28, u1 29, undef, undef, undef], []⟩) (fun s w => I1 s.1 s.2.1 s.2.2.1 s.2.2.2 w) (fun s w => μ1 s.1 s.2.1 s.2.2.1 s.2.2.2 w) (x1, none, 0, 0) (qaa) hI1 ?_
   rintro ⟨x3, A1, n1, c1⟩ a w3 ⟨u1, rfl⟩ hI1
   have h := hB1 x3 A1 n1 c1 w3 hI1
   refine wp_seq (wp_seq (qx (qbr (qz (wp_cond_split (t := (decide ((n1 : Int) < x2))) (by kernel_rfl) (fun hb => ?_) (fun hb => ?_))))))
   ·replace h := h.1 (of_decide_eq_true hb)
    refine wp_skip (qz (wp_block (wp_seq (qx ?_))))
    obtain ⟨d3, hl0, hx, h⟩ := h
    refine qq (qaq (cs := d3) rfl Tryz.isAgg22 Tryz.sizeOf22 (by simp [hl0]) hx ?_)
    obtain ⟨d4, hl0, hx, h⟩ := h
    refine qq (qaq (cs := d4) rfl Tryz.isAgg130 Tryz.sizeOf130 (by simp [hl0]) hx ?_)
    refine qbt 1 (qq (qai (args := #[.agg d3.toArray, .agg d4.toArray, .int .u32 x3]) rfl Tryz.call99 (Ret.mono h ?_)))
    clear h; rintro r1 w4 ⟨d5, rfl, hl0, h⟩
    refine qq (qac rfl Tryz.zeroValue160 ?_)
    intro b3 w5 e1 e2; replace h := h b3 w5 e1 e2
    obtain ⟨hl, h1, hw, h⟩ := h
    refine qq (qbd (cs := d5) rfl Tryz.sizeOf160 hl h1 hw ?_)
    intro w6 e1; replace h := h w6 e1
    refine qo (qz (wp_seq (qx (qbt 1 ?_))))
    obtain ⟨h1, h2, h3, h4, h⟩ := h
    refine qq (qbb (b := b3) (off := 0) (n := 64) (lo := 0) (hi := 64) (mx := 64) rfl (.inl ⟨rfl, rfl⟩) (.inl ⟨rfl, rfl⟩) (.inl ⟨rfl, rfl⟩) (by simp) Tryz.underlying160 Tryz.sizeOf5 h1 h2 h3 h4 ?_)
    intro A2 e1; replace h := h A2 e1
    obtain ⟨l1, l2, h1, h2, h3, h4, h5, h6, h7, h⟩ := h
    refine qq (qad (A := A1) (n := n1) (c := c1) (B := A2) (m := (64 - 0)) (c2 := (64 - 0)) (olds := l1) (news := l2) rfl Tryz.underlying62 Tryz.underlying62 Tryz.typeInfo5 rfl (by decide) h1 h2 h3 h4 h5 h6 h7 ?_)
    intro A3 c2 w7 e1; replace h := h A3 c2 w7 e1
    refine qbr (qz (qx (qbr (qu (qz ?_)))))
    exact ⟨((IntKind.u32.wrap (x3 + 1)), A3, (n1 + (64 - 0)), c2), qaa, h.1, h.2⟩
   ·replace h := h.2 (of_decide_eq_false hb)
    refine wp_exit (qr (qr (block_exit_eq (qz (wp_seq (qx (qbt 2 ?_)))))))
    obtain ⟨h1, h2, h3, h4, h⟩ := h
    refine qq (qba (A := A1) (n := n1) (c := c1) (lo := 0) (hi := x2) (mx := (c1 : Int)) rfl (.inl ⟨rfl, rfl⟩) (.inr ⟨_, .i64, rfl, by kernel_rfl⟩) (.inl ⟨rfl, rfl⟩) (by simp) Tryz.underlying62 Tryz.sizeOf5 h1 h2 h3 h4 ?_)
    intro A4 e1; replace h := h A4 e1
    refine qbr (qz (wp_ret ?_))
    exact qbh (v := .slice A4 (((x2).toNat) - 0) (c1 - 0)) h
def S_95 (d1 : List Value) (d2 : List Value) (x1 : Int) (w : World) (Q : Value → World → Prop) : Prop :=
 ∀ b1 w1, b1 = w.heap.size → w1 = w.alloc (.cells d1.toArray 22) →
 ∀ b2 w2, b2 = w1.heap.size → w2 = w1.alloc (.cells d2.toArray 130) →
 ∀ b3 w3, b3 = w2.heap.size → w3 = w2.alloc (.cells (List.replicate 64 (.int .u8 0 : Value)).toArray 160) →
 ∃ (d3 : List Value), d3.length = 32 ∧ w3.rangeAt b1 0 d3 ∧
 ∃ (d4 : List Value), d4.length = 12 ∧ w3.rangeAt b2 0 d4 ∧
 Ret Tryz.prog 107 #[.agg d3.toArray, .agg d4.toArray, .int .u32 x1] w3 fun r1 w4 => ∃ (d5 : List Value), r1 = .agg d5.toArray ∧ d5.length = 16 ∧
 ∀ b4 w5, b4 = w4.heap.size → w5 = w4.alloc (.cells (List.replicate 16 (.int .u32 0 : Value)).toArray 176) →
 d5.length = 16 ∧ One d5 ∧ w5.there b4 0 16 ∧
 ∀ w6, w6 = w5.setCells b4 0 d5 →
 ∃ (d6 : List Value), d6.length = 16 ∧ w6.rangeAt b4 0 d6 ∧
 ∀ b5 w7, b5 = w6.heap.size → w7 = w6.alloc (.cells (List.replicate 16 (.int .u32 0 : Value)).toArray 176) →
 d6.length = 16 ∧ One d6 ∧ w7.there b5 0 16 ∧
 ∀ w8, w8 = w7.setCells b5 0 d6 →
 ∃ (I1 : Int → World → Prop) (μ1 : Int → World → Nat), I1 0 w8 ∧
 ∀ x2 w9, I1 x2 w9 →
 (x2 < 10 →
 ∃ (I2 : Int → World → Prop) (μ2 : Int → World → Nat), I2 0 w9 ∧
 ∀ x3 w10, I2 x3 w10 →
 (x3 < 4 →
 Ret Tryz.prog 108 #[.int .i64 x3, .int .i64 (IntKind.i64.wrap (4 + x3)), .int .i64 (IntKind.i64.wrap (8 + x3)), .int .i64 (IntKind.i64.wrap (12 + x3)), .pointer (some ⟨b5, 0, none⟩)] w10 fun r2 w11 => r2 = .tuple #[] ∧
 I2 (IntKind.i64.wrap (x3 + 1)) w11 ∧ μ2 (IntKind.i64.wrap (x3 + 1)) w11 < μ2 x3 w10) ∧
 (¬ x3 < 4 →
 ∃ (I3 : Int → World → Prop) (μ3 : Int → World → Nat), I3 0 w10 ∧
 ∀ x4 w12, I3 x4 w12 →
 (x4 < 4 →
 Ret Tryz.prog 108 #[.int .i64 x4, .int .i64 (IntKind.i64.wrap (4 + ((IntKind.i64.wrap (x4 + 1)).tmod 4))), .int .i64 (IntKind.i64.wrap (8 + ((IntKind.i64.wrap (x4 + 2)).tmod 4))), .int .i64 (IntKind.i64.wrap (12 + ((IntKind.i64.wrap (x4 + 3)).tmod 4))), .pointer (some ⟨b5, 0, none⟩)] w12 fun r3 w13 => r3 = .tuple #[] ∧
 I3 (IntKind.i64.wrap (x4 + 1)) w13 ∧ μ3 (IntKind.i64.wrap (x4 + 1)) w13 < μ3 x4 w12) ∧
 (¬ x4 < 4 →
 I1 (IntKind.i64.wrap (x2 + 1)) w12 ∧ μ1 (IntKind.i64.wrap (x2 + 1)) w12 < μ1 x2 w9))) ∧
 (¬ x2 < 10 →
 ∀ b6 w14, b6 = w9.heap.size → w14 = w9.alloc (.cells (List.replicate 64 (.int .u8 0 : Value)).toArray 160) →
 ∃ (I4 : Int → World → Prop) (μ4 : Int → World → Nat), I4 0 w14 ∧
 ∀ x5 w15, I4 x5 w15 →
 (x5 < 64 →
 ∀ w16, w16 = w15.drew →
 0 ≤ (IntKind.i64.wrap (x5.tdiv 4)) ∧ (IntKind.i64.wrap (x5.tdiv 4)) < 16 ∧
 ∃ x6, w15.cell? ⟨b5, (0 + ((IntKind.i64.wrap (x5.tdiv 4))).toNat * 1), none⟩ = some (.int .u32 x6) ∧
 0 ≤ (IntKind.i64.wrap (x5.tdiv 4)) ∧ (IntKind.i64.wrap (x5.tdiv 4)) < 16 ∧
 ∃ x7, w15.cell? ⟨b4, (0 + ((IntKind.i64.wrap (x5.tdiv 4))).toNat * 1), none⟩ = some (.int .u32 x7) ∧
 0 ≤ (IntKind.i64.wrap (8 * (x5.tmod 4))) ∧
 0 ≤ x5 ∧ x5 < 64 ∧
 (w16.cell? ⟨b6, (0 + (x5).toNat * 1), none⟩).isSome = true ∧ w16.frozen? ⟨b6, (0 + (x5).toNat * 1), none⟩ = false ∧
 ∀ w17, w17 = w16.setCell ⟨b6, (0 + (x5).toNat * 1), none⟩ (.int .u8 (IntKind.u8.wrap (iShr .u32 (IntKind.u32.wrap (x6 + x7)) (IntKind.i64.wrap (8 * (x5.tmod 4)))))) →
 I4 (IntKind.i64.wrap (x5 + 1)) w17 ∧ μ4 (IntKind.i64.wrap (x5 + 1)) w17 < μ4 x5 w15) ∧
 (¬ x5 < 64 →
 ∃ (d7 : List Value), d7.length = 64 ∧ w15.rangeAt b6 0 d7 ∧
 d7.length = 64 ∧ One d7 ∧ w15.there b3 0 64 ∧
 ∀ w18, w18 = w15.setCells b3 0 d7 →
 ∃ (d8 : List Value), d8.length = 64 ∧ w18.rangeAt b3 0 d8 ∧ Q (.agg d8.toArray) w18))
theorem L_95 (d1 : List Value) (d2 : List Value) (x1 : Int) (w : World) (Q : Value → World → Prop) (hp0 : d1.length = 32) (hp1 : d2.length = 12) (h : S_95 d1 d2 x1 w Q) : Ret Tryz.prog 95 #[.agg d1.toArray, .agg d2.toArray, .int .u32 x1] w Q := by
 unfold S_95 at h
 refine ret_of_wp Tryz.func95 rfl (wp_seq (qx (qq (qaf (v := .agg d1.toArray) rfl ?_))))
 intro b1 w1 e1 e2; replace h := h b1 w1 e1 e2
 refine qq (qaf (v := .agg d2.toArray) rfl ?_)
 intro b2 w2 e1 e2; replace h := h b2 w2 e1 e2
 refine qq (qac rfl Tryz.zeroValue160 ?_)
 intro b3 w3 e1 e2; replace h := h b3 w3 e1 e2
 refine qo (qz (wp_seq (qx ?_)))
 obtain ⟨d3, hl0, hx, h⟩ := h
 refine qq (qaq (cs := d3) rfl Tryz.isAgg22 Tryz.sizeOf22 (by simp [hl0]) hx ?_)
 obtain ⟨d4, hl0, hx, h⟩ := h
 refine qq (qaq (cs := d4) rfl Tryz.isAgg130 Tryz.sizeOf130 (by simp [hl0]) hx ?_)
 refine qbt 1 (qq (qai (args := #[.agg d3.toArray, .agg d4.toArray, .int .u32 x1]) rfl Tryz.call107 (Ret.mono h ?_)))
 clear h; rintro r1 w4 ⟨d5, rfl, hl0, h⟩
 refine qq (qac rfl Tryz.zeroValue176 ?_)
 intro b4 w5 e1 e2; replace h := h b4 w5 e1 e2
 obtain ⟨hl, h1, hw, h⟩ := h
 refine qq (qbd (cs := d5) rfl Tryz.sizeOf176 hl h1 hw ?_)
 intro w6 e1; replace h := h w6 e1
 refine qo (qz (wp_seq (qx ?_)))
 obtain ⟨d6, hl0, hx, h⟩ := h
 refine qq (qaq (cs := d6) rfl Tryz.isAgg176 Tryz.sizeOf176 (by simp [hl0]) hx ?_)
 refine qq (qac rfl Tryz.zeroValue176 ?_)
 intro b5 w7 e1 e2; replace h := h b5 w7 e1 e2
 obtain ⟨hl, h1, hw, h⟩ := h
 refine qq (qbd (cs := d6) rfl Tryz.sizeOf176 hl h1 hw ?_)
 intro w8 e1; replace h := h w8 e1
 refine qo (qz (wp_seq (qx (qbr (qz (wp_seq (wp_seq (qx (qbr (qz (wp_block ?_)))))))))))
 obtain ⟨I1, μ1, hI1, hB1⟩ := h
 refine wp_loop_st (σ := Int) (fun s a => ∃ u1 : Nat → Value, a = ⟨#[.agg d1.toArray, .agg d2.toArray, .int .u32 x1, .pointer (some ⟨b1, 0, none⟩), .pointer (some ⟨b2, 0, none⟩), undef, .pointer (some ⟨b3, 0, none⟩), .pointer (some ⟨b4, 0, none⟩), .pointer (some ⟨b5, 0, none⟩), .func (.func 108) #[] #[.pointer (some ⟨b5, 0, none⟩)], u1 10, u1 11, undef, undef, .agg d3.toArray, .agg d4.toArray, .int .u32 x1, .agg d5.toArray, .agg d6.toArray, .func (.func 108) #[] #[.pointer (some ⟨b5, 0, none⟩)], .int .i64 s, u1 21, u1 22, u1 23, u1 24, u1 25, u1 26, u1 27, u1 28, u1 29, u1 30, u1 31, u1 32, u1 33, u1 34, u1 35, u1 36, u1 37, u1 38, u1 39, u1 40, u1 41, u1 42, u1 43, u1 44, u1 45, u1 46, u1 47, u1 48, u1 49, u1 50, u1 51, u1 52, u1 53, u1 54, undef, undef, undef, undef, undef, undef, undef, undef, undef, undef, undef, undef, undef, undef, undef, undef, undef, undef, undef, undef, undef], []⟩) (fun s w => I1 s w) (fun s w => μ1 s w) (0) (qaa) hI1 ?_
 rintro x2 a w9 ⟨u1, rfl⟩ hI1
 have h := hB1 x2 w9 hI1
 refine wp_seq (qx (qbr (qz (wp_seq (wp_cond_split (t := (decide (x2 < 10))) (by kernel_rfl) (fun hb => ?_) (fun hb => ?_))))))
 ·replace h := h.1 (of_decide_eq_true hb)
  refine wp_skip (qz (wp_seq (wp_block (wp_seq (wp_seq (qx (qbr (qz (wp_block ?_)))))))))
  obtain ⟨I2, μ2, hI2, hB2⟩ := h
  refine wp_loop_st (σ := Int) (fun s a => ∃ u2 : Nat → Value, a = ⟨#[.agg d1.toArray, .agg d2.toArray, .int .u32 x1, .pointer (some ⟨b1, 0, none⟩), .pointer (some ⟨b2, 0, none⟩), undef, .pointer (some ⟨b3, 0, none⟩), .pointer (some ⟨b4, 0, none⟩), .pointer (some ⟨b5, 0, none⟩), .func (.func 108) #[] #[.pointer (some ⟨b5, 0, none⟩)], u2 10, u1 11, undef, undef, .agg d3.toArray, .agg d4.toArray, .int .u32 x1, .agg d5.toArray, .agg d6.toArray, .func (.func 108) #[] #[.pointer (some ⟨b5, 0, none⟩)], .int .i64 x2, .bool (decide (x2 < 10)), .int .i64 s, u2 23, u2 24, u2 25, u2 26, u2 27, u2 28, u2 29, u2 30, u2 31, u2 32, u2 33, u2 34, u1 35, u1 36, u1 37, u1 38, u1 39, u1 40, u1 41, u1 42, u1 43, u1 44, u1 45, u1 46, u1 47, u1 48, u1 49, u1 50, u1 51, u1 52, u1 53, u1 54, undef, undef, undef, undef, undef, undef, undef, undef, undef, undef, undef, undef, undef, undef, undef, undef, undef, undef, undef, undef, undef], []⟩) (fun s w => I2 s w) (fun s w => μ2 s w) (0) (qaa) hI2 ?_
  rintro x3 a w10 ⟨u2, rfl⟩ hI2
  have h := hB2 x3 w10 hI2
  refine wp_seq (qx (qbr (qz (wp_seq (wp_cond_split (t := (decide (x3 < 4))) (by kernel_rfl) (fun hb => ?_) (fun hb => ?_))))))
  ·replace h := h.1 (of_decide_eq_true hb)
   refine wp_skip (qz (wp_seq (wp_block (wp_seq (qx (qbr (qz (qx (qbt 8 (qq (qak (args := #[.int .i64 x3, .int .i64 (IntKind.i64.wrap (4 + x3)), .int .i64 (IntKind.i64.wrap (8 + x3)), .int .i64 (IntKind.i64.wrap (12 + x3)), .pointer (some ⟨b5, 0, none⟩)]) (cap := #[.pointer (some ⟨b5, 0, none⟩)]) rfl Tryz.call108 (Ret.mono h ?_))))))))))))
   clear h; rintro r2 w11 ⟨rfl, h⟩
   refine qo (qu (qz (qx (qbr (qz ?_)))))
   exact ⟨((IntKind.i64.wrap (x3 + 1))), qaa, h.1, h.2⟩
  ·replace h := h.2 (of_decide_eq_false hb)
   refine wp_exit (qr (qr (block_exit_eq (qz (wp_seq (qx (qbr (qz (wp_block ?_)))))))))
   obtain ⟨I3, μ3, hI3, hB3⟩ := h
   refine wp_loop_st (σ := Int) (fun s a => ∃ u3 : Nat → Value, a = ⟨#[.agg d1.toArray, .agg d2.toArray, .int .u32 x1, .pointer (some ⟨b1, 0, none⟩), .pointer (some ⟨b2, 0, none⟩), undef, .pointer (some ⟨b3, 0, none⟩), .pointer (some ⟨b4, 0, none⟩), .pointer (some ⟨b5, 0, none⟩), .func (.func 108) #[] #[.pointer (some ⟨b5, 0, none⟩)], u2 10, u3 11, undef, undef, .agg d3.toArray, .agg d4.toArray, .int .u32 x1, .agg d5.toArray, .agg d6.toArray, .func (.func 108) #[] #[.pointer (some ⟨b5, 0, none⟩)], .int .i64 x2, .bool (decide (x2 < 10)), .int .i64 x3, .bool (decide (x3 < 4)), u2 24, u2 25, u2 26, u2 27, u2 28, u2 29, u2 30, u2 31, u2 32, u2 33, u2 34, .int .i64 s, u3 36, u3 37, u3 38, u3 39, u3 40, u3 41, u3 42, u3 43, u3 44, u3 45, u3 46, u3 47, u3 48, u3 49, u3 50, u3 51, u3 52, u3 53, u1 54, undef, undef, undef, undef, undef, undef, undef, undef, undef, undef, undef, undef, undef, undef, undef, undef, undef, undef, undef, undef, undef], []⟩) (fun s w => I3 s w) (fun s w => μ3 s w) (0) (qaa) hI3 ?_
   rintro x4 a w12 ⟨u3, rfl⟩ hI3
   have h := hB3 x4 w12 hI3
   refine wp_seq (qx (qbr (qz (wp_seq (wp_cond_split (t := (decide (x4 < 4))) (by kernel_rfl) (fun hb => ?_) (fun hb => ?_))))))
   ·replace h := h.1 (of_decide_eq_true hb)
    refine wp_skip (qz (wp_seq (wp_block (wp_seq (qx (qbr (qz (qx (qbt 14 (qq (qak (args := #[.int .i64 x4, .int .i64 (IntKind.i64.wrap (4 + ((IntKind.i64.wrap (x4 + 1)).tmod 4))), .int .i64 (IntKind.i64.wrap (8 + ((IntKind.i64.wrap (x4 + 2)).tmod 4))), .int .i64 (IntKind.i64.wrap (12 + ((IntKind.i64.wrap (x4 + 3)).tmod 4))), .pointer (some ⟨b5, 0, none⟩)]) (cap := #[.pointer (some ⟨b5, 0, none⟩)]) rfl Tryz.call108 (Ret.mono h ?_))))))))))))
    clear h; rintro r3 w13 ⟨rfl, h⟩
    refine qo (qu (qz (qx (qbr (qz ?_)))))
    exact ⟨((IntKind.i64.wrap (x4 + 1))), qaa, h.1, h.2⟩
   ·replace h := h.2 (of_decide_eq_false hb)
    refine wp_exit (qr (qr (block_exit_eq (qu (qz (qx (qbr (qz ?_))))))))
    exact ⟨((IntKind.i64.wrap (x2 + 1))), qaa, h.1, h.2⟩
 ·replace h := h.2 (of_decide_eq_false hb)
  refine wp_exit (qr (qr (block_exit_eq (qz (wp_seq (qx (qq (qac rfl Tryz.zeroValue160 ?_))))))))
  intro b6 w14 e1 e2; replace h := h b6 w14 e1 e2
  refine qo (qz (wp_seq (wp_seq (qx (qbr (qz (wp_block ?_)))))))
  obtain ⟨I4, μ4, hI4, hB4⟩ := h
  refine wp_loop_st (σ := Int) (fun s a => ∃ u4 : Nat → Value, a = ⟨#[.agg d1.toArray, .agg d2.toArray, .int .u32 x1, .pointer (some ⟨b1, 0, none⟩), .pointer (some ⟨b2, 0, none⟩), undef, .pointer (some ⟨b3, 0, none⟩), .pointer (some ⟨b4, 0, none⟩), .pointer (some ⟨b5, 0, none⟩), .func (.func 108) #[] #[.pointer (some ⟨b5, 0, none⟩)], u1 10, u1 11, .pointer (some ⟨b6, 0, none⟩), u4 13, .agg d3.toArray, .agg d4.toArray, .int .u32 x1, .agg d5.toArray, .agg d6.toArray, .func (.func 108) #[] #[.pointer (some ⟨b5, 0, none⟩)], .int .i64 x2, .bool (decide (x2 < 10)), u1 22, u1 23, u1 24, u1 25, u1 26, u1 27, u1 28, u1 29, u1 30, u1 31, u1 32, u1 33, u1 34, u1 35, u1 36, u1 37, u1 38, u1 39, u1 40, u1 41, u1 42, u1 43, u1 44, u1 45, u1 46, u1 47, u1 48, u1 49, u1 50, u1 51, u1 52, u1 53, u1 54, .int .i64 s, u4 56, u4 57, u4 58, u4 59, u4 60, u4 61, u4 62, u4 63, u4 64, u4 65, u4 66, u4 67, u4 68, u4 69, u4 70, u4 71, u4 72, u4 73, u4 74, undef], []⟩) (fun s w => I4 s w) (fun s w => μ4 s w) (0) (qaa) hI4 ?_
  rintro x5 a w15 ⟨u4, rfl⟩ hI4
  have h := hB4 x5 w15 hI4
  refine wp_seq (qx (qbr (qz (wp_seq (wp_cond_split (t := (decide (x5 < 64))) (by kernel_rfl) (fun hb => ?_) (fun hb => ?_))))))
  ·replace h := h.1 (of_decide_eq_true hb)
   refine wp_skip (qz (wp_seq (wp_block (wp_seq (qx (qbr (qz (qbj (Keep w15) [16] ?_))))))))
   intro w16 e1; have hK1 := keep_drew e1; replace h := h w16 e1
   refine qbo 0 rfl (qbz (v := .int .i64 x5)) (qbo 1 rfl (qbz (v := .int .i64 x5)) (qbo 2 rfl (qbz (v := .int .i64 (IntKind.i64.wrap (x5.tdiv 4)))) ?_))
   obtain ⟨h1, h2, h⟩ := h
   refine qbo 3 rfl (qbv (k := .i64) (j := (IntKind.i64.wrap (x5.tdiv 4))) (b := b5) (off := 0) rfl Tryz.underlying176 Tryz.sizeOf23 h1 h2) ?_
   obtain ⟨x6, hx, h⟩ := h
   refine qbn 4 rfl (qbw (v := .int .u32 x6) rfl Tryz.isAgg23 (fun _ hk => keep_cell hk hx)) hK1 ?_
   refine qbo 5 rfl (qbz (v := .int .i64 x5)) (qbo 6 rfl (qbz (v := .int .i64 (IntKind.i64.wrap (x5.tdiv 4)))) ?_)
   obtain ⟨h1, h2, h⟩ := h
   refine qbo 7 rfl (qbv (k := .i64) (j := (IntKind.i64.wrap (x5.tdiv 4))) (b := b4) (off := 0) rfl Tryz.underlying176 Tryz.sizeOf23 h1 h2) ?_
   obtain ⟨x7, hx, h⟩ := h
   refine qbn 8 rfl (qbw (v := .int .u32 x7) rfl Tryz.isAgg23 (fun _ hk => keep_cell hk hx)) hK1 ?_
   refine qbo 9 rfl (qbz (v := .int .u32 (IntKind.u32.wrap (x6 + x7)))) (qbo 10 rfl (qbz (v := .int .i64 x5)) (qbo 11 rfl (qbz (v := .int .i64 (x5.tmod 4))) (qbo 12 rfl (qbz (v := .int .i64 (IntKind.i64.wrap (8 * (x5.tmod 4))))) ?_)))
   obtain ⟨h1, h⟩ := h
   refine qbo 13 rfl (qca (k := .u32) (k2 := .i64) (x := (IntKind.u32.wrap (x6 + x7))) (y := (IntKind.i64.wrap (8 * (x5.tmod 4)))) rfl h1) ?_
   refine qbo 14 rfl (qbz (v := .int .u8 (IntKind.u8.wrap (iShr .u32 (IntKind.u32.wrap (x6 + x7)) (IntKind.i64.wrap (8 * (x5.tmod 4))))))) ?_
   obtain ⟨h1, h2, h⟩ := h
   refine qbo 15 rfl (qbv (k := .i64) (j := x5) (b := b6) (off := 0) rfl Tryz.underlying160 Tryz.sizeOf5 h1 h2) ?_
   obtain ⟨hc, hf, h⟩ := h
   refine qbm 16 rfl (qbc (v := .int .u8 (IntKind.u8.wrap (iShr .u32 (IntKind.u32.wrap (x6 + x7)) (IntKind.i64.wrap (8 * (x5.tmod 4)))))) rfl Tryz.sizeOf5 rfl hc hf ?_)
   intro w17 e1; replace h := h w17 e1
   refine ⟨fun hh => absurd hh (by decide), ?_⟩
   refine qbk (qu (qz (qx (qbr (qz ?_)))))
   exact ⟨((IntKind.i64.wrap (x5 + 1))), qaa, h.1, h.2⟩
  ·replace h := h.2 (of_decide_eq_false hb)
   refine wp_exit (qr (qr (block_exit_eq (qz (wp_seq (qx ?_))))))
   obtain ⟨d7, hl0, hx, h⟩ := h
   refine qq (qaq (cs := d7) rfl Tryz.isAgg160 Tryz.sizeOf160 (by simp [hl0]) hx ?_)
   obtain ⟨hl, h1, hw, h⟩ := h
   refine qq (qbd (cs := d7) rfl Tryz.sizeOf160 hl h1 hw ?_)
   intro w18 e1; replace h := h w18 e1
   refine qo (qz (wp_ret ?_))
   obtain ⟨d8, hl0_0, hx0, h⟩ := h
   exact qbi (vs := [.agg d8.toArray]) (v := .agg d8.toArray) Tryz.results95 ⟨⟨b3, 0, by kernel_rfl, run_loadN Tryz.isAgg160 Tryz.sizeOf160 (by simp [hl0_0]) hx0⟩, trivial⟩ h
def S_99 (d1 : List Value) (d2 : List Value) (x1 : Int) (w : World) (Q : Value → World → Prop) : Prop :=
 ∀ b1 w1, b1 = w.heap.size → w1 = w.alloc (.cells d1.toArray 22) →
 ∀ b2 w2, b2 = w1.heap.size → w2 = w1.alloc (.cells d2.toArray 130) →
 ∀ b3 w3, b3 = w2.heap.size → w3 = w2.alloc (.cells (List.replicate 64 (.int .u8 0 : Value)).toArray 160) →
 ∀ b4 w4, b4 = w3.heap.size → w4 = w3.alloc (.cells #[.int .u32 1634760805, .int .u32 857760878, .int .u32 2036477234, .int .u32 1797285236] 23) →
 ∃ (I1 : (Option Addr) → Nat → Nat → Int → World → Prop) (μ1 : (Option Addr) → Nat → Nat → Int → World → Nat), I1 (some ⟨b4, 0, none⟩) 4 4 0 w4 ∧
 ∀ A1 n1 c1 x2 w5, I1 A1 n1 c1 x2 w5 →
 (x2 < 8 →
 (0 : Int) ≤ (IntKind.i64.wrap (4 * x2)) ∧ ((IntKind.i64.wrap (4 * x2)) : Int) ≤ (IntKind.i64.wrap ((IntKind.i64.wrap (4 * x2)) + 4)) ∧ ((IntKind.i64.wrap ((IntKind.i64.wrap (4 * x2)) + 4)) : Int) ≤ 32 ∧ (32 : Int) ≤ 32 ∧
 ∀ A2, A2 = cutA (some ⟨b1, 0, none⟩) (((IntKind.i64.wrap (4 * x2))).toNat) 32 1 →
 Ret Tryz.prog 112 #[.slice A2 ((((IntKind.i64.wrap ((IntKind.i64.wrap (4 * x2)) + 4))).toNat) - (((IntKind.i64.wrap (4 * x2))).toNat)) (32 - (((IntKind.i64.wrap (4 * x2))).toNat))] w5 fun r1 w6 => ∃ x3, r1 = .int .u32 x3 ∧
 ∀ b5 w7, b5 = w6.heap.size → w7 = w6.alloc (.cells #[.int .u32 x3] 23) →
 ∃ l1 l2 : List Value, (n1 + 1) * 4 ≤ 140737488355328 ∧ l1.length = n1 * 1 ∧ RdS w7 A1 l1 ∧ l2.length = 1 * 1 ∧ RdS w7 (some ⟨b5, 0, none⟩) l2 ∧ One l2 ∧ (n1 + 1 ≤ c1 → Room w7 A1 (n1 * 1) (1 * 1)) ∧
 ∀ A3 c2 w8, Appended w7 23 1 #[.int .u32 0] A1 n1 c1 1 l1 l2 A3 c2 w8 →
 I1 A3 (n1 + 1) c2 (IntKind.i64.wrap (x2 + 1)) w8 ∧ μ1 A3 (n1 + 1) c2 (IntKind.i64.wrap (x2 + 1)) w8 < μ1 A1 n1 c1 x2 w5) ∧
 (¬ x2 < 8 →
 ∀ b6 w9, b6 = w5.heap.size → w9 = w5.alloc (.cells #[.int .u32 x1] 23) →
 ∃ l3 l4 : List Value, (n1 + 1) * 4 ≤ 140737488355328 ∧ l3.length = n1 * 1 ∧ RdS w9 A1 l3 ∧ l4.length = 1 * 1 ∧ RdS w9 (some ⟨b6, 0, none⟩) l4 ∧ One l4 ∧ (n1 + 1 ≤ c1 → Room w9 A1 (n1 * 1) (1 * 1)) ∧
 ∀ A4 c3 w10, Appended w9 23 1 #[.int .u32 0] A1 n1 c1 1 l3 l4 A4 c3 w10 →
 ∃ (I2 : (Option Addr) → Nat → Nat → Int → World → Prop) (μ2 : (Option Addr) → Nat → Nat → Int → World → Nat), I2 A4 (n1 + 1) c3 0 w10 ∧
 ∀ A5 n2 c4 x4 w11, I2 A5 n2 c4 x4 w11 →
 (x4 < 3 →
 (0 : Int) ≤ (IntKind.i64.wrap (4 * x4)) ∧ ((IntKind.i64.wrap (4 * x4)) : Int) ≤ (IntKind.i64.wrap ((IntKind.i64.wrap (4 * x4)) + 4)) ∧ ((IntKind.i64.wrap ((IntKind.i64.wrap (4 * x4)) + 4)) : Int) ≤ 12 ∧ (12 : Int) ≤ 12 ∧
 ∀ A6, A6 = cutA (some ⟨b2, 0, none⟩) (((IntKind.i64.wrap (4 * x4))).toNat) 12 1 →
 Ret Tryz.prog 112 #[.slice A6 ((((IntKind.i64.wrap ((IntKind.i64.wrap (4 * x4)) + 4))).toNat) - (((IntKind.i64.wrap (4 * x4))).toNat)) (12 - (((IntKind.i64.wrap (4 * x4))).toNat))] w11 fun r2 w12 => ∃ x5, r2 = .int .u32 x5 ∧
 ∀ b7 w13, b7 = w12.heap.size → w13 = w12.alloc (.cells #[.int .u32 x5] 23) →
 ∃ l5 l6 : List Value, (n2 + 1) * 4 ≤ 140737488355328 ∧ l5.length = n2 * 1 ∧ RdS w13 A5 l5 ∧ l6.length = 1 * 1 ∧ RdS w13 (some ⟨b7, 0, none⟩) l6 ∧ One l6 ∧ (n2 + 1 ≤ c4 → Room w13 A5 (n2 * 1) (1 * 1)) ∧
 ∀ A7 c5 w14, Appended w13 23 1 #[.int .u32 0] A5 n2 c4 1 l5 l6 A7 c5 w14 →
 I2 A7 (n2 + 1) c5 (IntKind.i64.wrap (x4 + 1)) w14 ∧ μ2 A7 (n2 + 1) c5 (IntKind.i64.wrap (x4 + 1)) w14 < μ2 A5 n2 c4 x4 w11) ∧
 (¬ x4 < 3 →
 ∃ l7 l8 : List Value, (0 + n2) * 4 ≤ 140737488355328 ∧ l7.length = 0 * 1 ∧ RdS w11 none l7 ∧ l8.length = n2 * 1 ∧ RdS w11 A5 l8 ∧ One l8 ∧ (0 + n2 ≤ 0 → Room w11 none (0 * 1) (n2 * 1)) ∧
 ∀ A8 c6 w15, Appended w11 23 1 #[.int .u32 0] none 0 0 n2 l7 l8 A8 c6 w15 →
 ∃ (I3 : Int → World → Prop) (μ3 : Int → World → Nat), I3 0 w15 ∧
 ∀ x6 w16, I3 x6 w16 →
 (x6 < 10 →
 Ret Tryz.prog 113 #[] w16 fun r3 w17 => ∃ A9 n3 c7, r3 = .slice A9 n3 c7 ∧
 ∃ (I4 : Int → World → Prop) (μ4 : Int → World → Nat), I4 0 w17 ∧
 ∀ x7 w18, I4 x7 w18 →
 (x7 < (n3 : Int) →
 ∃ b8 o1, A9 = some ⟨b8, o1, none⟩ ∧ (0 : Int) ≤ x7 ∧ x7 < (n3 : Int) ∧
 ∃ A10 n4 c8, w18.cell? ⟨b8, (o1 + (x7).toNat * 1), none⟩ = some (.slice A10 n4 c8) ∧
 ∃ J1 : (Option Addr) → World → Prop, (∀ p2 w19, J1 p2 w19 →
 ∃ (I5 : Int → World → Prop) (μ5 : Int → World → Nat), I5 0 w19 ∧
 ∀ x8 w20, I5 x8 w20 →
 (x8 < 4 →
 ∀ w21, w21 = w20.drew →
 ∃ b9 o2, A10 = some ⟨b9, o2, none⟩ ∧ (0 : Int) ≤ x8 ∧ x8 < (n4 : Int) ∧
 ∃ x9, w20.cell? ⟨b9, (o2 + (x8).toNat * 1), none⟩ = some (.int .i64 x9) ∧
 ∃ b10 o3, p2 = some ⟨b10, o3, none⟩ ∧
 0 ≤ x8 ∧ x8 < 4 ∧
 ∃ x10, w20.cell? ⟨b10, (o3 + (x8).toNat * 1), none⟩ = some (.int .u32 x10) ∧
 ∃ b11 o4, A8 = some ⟨b11, o4, none⟩ ∧ (0 : Int) ≤ x9 ∧ x9 < (((0 + n2) : Nat) : Int) ∧
 (w21.cell? ⟨b11, (o4 + (x9).toNat * 1), none⟩).isSome = true ∧ w21.frozen? ⟨b11, (o4 + (x9).toNat * 1), none⟩ = false ∧
 ∀ w22, w22 = w21.setCell ⟨b11, (o4 + (x9).toNat * 1), none⟩ (.int .u32 x10) →
 I5 (IntKind.i64.wrap (x8 + 1)) w22 ∧ μ5 (IntKind.i64.wrap (x8 + 1)) w22 < μ5 x8 w20) ∧
 (¬ x8 < 4 →
 I4 (IntKind.i64.wrap (x7 + 1)) w20 ∧ μ4 (IntKind.i64.wrap (x7 + 1)) w20 < μ4 x7 w18)) ∧
 ∀ w23, w23 = w18.drew →
 ∃ b12 o5, A10 = some ⟨b12, o5, none⟩ ∧ (0 : Int) ≤ 0 ∧ 0 < (n4 : Int) ∧
 ∃ x11, w18.cell? ⟨b12, (o5 + 0 * 1), none⟩ = some (.int .i64 x11) ∧
 ∃ b13 o6, A8 = some ⟨b13, o6, none⟩ ∧ (0 : Int) ≤ x11 ∧ x11 < (((0 + n2) : Nat) : Int) ∧
 ∃ x12, w18.cell? ⟨b13, (o6 + (x11).toNat * 1), none⟩ = some (.int .u32 x12) ∧
 (0 : Int) ≤ 1 ∧ 1 < (n4 : Int) ∧
 ∃ x13, w18.cell? ⟨b12, (o5 + 1 * 1), none⟩ = some (.int .i64 x13) ∧
 (0 : Int) ≤ x13 ∧ x13 < (((0 + n2) : Nat) : Int) ∧
 ∃ x14, w18.cell? ⟨b13, (o6 + (x13).toNat * 1), none⟩ = some (.int .u32 x14) ∧
 (0 : Int) ≤ 2 ∧ 2 < (n4 : Int) ∧
 ∃ x15, w18.cell? ⟨b12, (o5 + 2 * 1), none⟩ = some (.int .i64 x15) ∧
 (0 : Int) ≤ x15 ∧ x15 < (((0 + n2) : Nat) : Int) ∧
 ∃ x16, w18.cell? ⟨b13, (o6 + (x15).toNat * 1), none⟩ = some (.int .u32 x16) ∧
 (0 : Int) ≤ 3 ∧ 3 < (n4 : Int) ∧
 ∃ x17, w18.cell? ⟨b12, (o5 + 3 * 1), none⟩ = some (.int .i64 x17) ∧
 (0 : Int) ≤ x17 ∧ x17 < (((0 + n2) : Nat) : Int) ∧
 ∃ x18, w18.cell? ⟨b13, (o6 + (x17).toNat * 1), none⟩ = some (.int .u32 x18) ∧
 ∀  wp1_0, Ext w23 wp1_0 → Fl w23.heap.size [] wp1_0 [] →
 Ret Tryz.prog 114 #[.agg #[.int .u32 x12, .int .u32 x14, .int .u32 x16, .int .u32 x18]] wp1_0 fun rr1 wq1_0 => ∃ x19 x20 x21 x22, rr1 = .agg #[.int .u32 x19, .int .u32 x20, .int .u32 x21, .int .u32 x22] ∧ KeepFl w23.heap.size wp1_0 wq1_0 ∧
 ∀ bF1_26 wz1, Ext wq1_0 wz1 → Fl w23.heap.size [(wp1_0.heap.size, wq1_0.heap.size)] wz1 [(bF1_26, 178, #[.int .u32 0, .int .u32 0, .int .u32 0, .int .u32 0])] →
 wz1.there bF1_26 0 4 ∧
 ∀ w1024, w1024 = wz1.setCells bF1_26 0 ([.int .u32 x19, .int .u32 x20, .int .u32 x21, .int .u32 x22] : List Value) →
 J1 (some ⟨bF1_26, 0, none⟩) w1024) ∧
 (¬ x7 < (n3 : Int) →
 I3 (IntKind.i64.wrap (x6 + 1)) w18 ∧ μ3 (IntKind.i64.wrap (x6 + 1)) w18 < μ3 x6 w16)) ∧
 (¬ x6 < 10 →
 ∀ b1014 w1026, b1014 = w16.heap.size → w1026 = w16.alloc (.cells (List.replicate 64 (.int .u8 0 : Value)).toArray 160) →
 ∃ (I1006 : Int → World → Prop) (μ1006 : Int → World → Nat), I1006 0 w1026 ∧
 ∀ x1023 w1027, I1006 x1023 w1027 →
 (x1023 < 16 →
 ∀ w1028, w1028 = w1027.drew →
 ∃ b1015 o1007, A8 = some ⟨b1015, o1007, none⟩ ∧ (0 : Int) ≤ x1023 ∧ x1023 < (((0 + n2) : Nat) : Int) ∧
 ∃ x1024, w1027.cell? ⟨b1015, (o1007 + (x1023).toNat * 1), none⟩ = some (.int .u32 x1024) ∧
 ∃ b1016 o1008, A5 = some ⟨b1016, o1008, none⟩ ∧ (0 : Int) ≤ x1023 ∧ x1023 < (n2 : Int) ∧
 ∃ x1025, w1027.cell? ⟨b1016, (o1008 + (x1023).toNat * 1), none⟩ = some (.int .u32 x1025) ∧
 ∃ (I1007 : Int → World → Prop) (μ1007 : Int → World → Nat), I1007 0 w1028 ∧
 ∀ x1026 w1029, I1007 x1026 w1029 →
 (x1026 < 4 →
 0 ≤ (IntKind.i64.wrap (8 * x1026)) ∧
 0 ≤ (IntKind.i64.wrap ((IntKind.i64.wrap (4 * x1023)) + x1026)) ∧ (IntKind.i64.wrap ((IntKind.i64.wrap (4 * x1023)) + x1026)) < 64 ∧
 (w1029.cell? ⟨b1014, (0 + ((IntKind.i64.wrap ((IntKind.i64.wrap (4 * x1023)) + x1026))).toNat * 1), none⟩).isSome = true ∧ w1029.frozen? ⟨b1014, (0 + ((IntKind.i64.wrap ((IntKind.i64.wrap (4 * x1023)) + x1026))).toNat * 1), none⟩ = false ∧
 ∀ w1030, w1030 = w1029.setCell ⟨b1014, (0 + ((IntKind.i64.wrap ((IntKind.i64.wrap (4 * x1023)) + x1026))).toNat * 1), none⟩ (.int .u8 (IntKind.u8.wrap (iShr .u32 (IntKind.u32.wrap (x1024 + x1025)) (IntKind.i64.wrap (8 * x1026))))) →
 I1007 (IntKind.i64.wrap (x1026 + 1)) w1030 ∧ μ1007 (IntKind.i64.wrap (x1026 + 1)) w1030 < μ1007 x1026 w1029) ∧
 (¬ x1026 < 4 →
 I1006 (IntKind.i64.wrap (x1023 + 1)) w1029 ∧ μ1006 (IntKind.i64.wrap (x1023 + 1)) w1029 < μ1006 x1023 w1027)) ∧
 (¬ x1023 < 16 →
 ∃ (d1003 : List Value), d1003.length = 64 ∧ w1027.rangeAt b1014 0 d1003 ∧
 d1003.length = 64 ∧ One d1003 ∧ w1027.there b3 0 64 ∧
 ∀ w1031, w1031 = w1027.setCells b3 0 d1003 →
 ∃ (d1004 : List Value), d1004.length = 64 ∧ w1031.rangeAt b3 0 d1004 ∧ Q (.agg d1004.toArray) w1031))))
theorem L_99 (d1 : List Value) (d2 : List Value) (x1 : Int) (w : World) (Q : Value → World → Prop) (hp0 : d1.length = 32) (hp1 : d2.length = 12) (h : S_99 d1 d2 x1 w Q) : Ret Tryz.prog 99 #[.agg d1.toArray, .agg d2.toArray, .int .u32 x1] w Q := by
 unfold S_99 at h
 refine ret_of_wp Tryz.func99 rfl (wp_seq (qx (qq (qaf (v := .agg d1.toArray) rfl ?_))))
 intro b1 w1 e1 e2; replace h := h b1 w1 e1 e2
 refine qq (qaf (v := .agg d2.toArray) rfl ?_)
 intro b2 w2 e1 e2; replace h := h b2 w2 e1 e2
 refine qq (qac rfl Tryz.zeroValue160 ?_)
 intro b3 w3 e1 e2; replace h := h b3 w3 e1 e2
 refine qo (qz (wp_seq (qx (qq (qag (cs := ([.int .u32 1634760805, .int .u32 857760878, .int .u32 2036477234, .int .u32 1797285236] : List Value)) rfl Tryz.underlying132 Tryz.sizeOf23 Tryz.zeroValue23 (by kernel_rfl) (by decide) (by decide) ?_)))))
 intro b4 w4 e1 e2; replace h := h b4 w4 e1 e2
 refine qbr (qz (wp_seq (wp_seq (qx (qbr (qz (wp_block ?_)))))))
 obtain ⟨I1, μ1, hI1, hB1⟩ := h
 refine wp_loop_st (σ := (Option Addr) × Nat × Nat × Int) (fun s a => ∃ u1 : Nat → Value, a = ⟨#[.agg d1.toArray, .agg d2.toArray, .int .u32 x1, .pointer (some ⟨b1, 0, none⟩), .pointer (some ⟨b2, 0, none⟩), undef, .pointer (some ⟨b3, 0, none⟩), .slice s.1 s.2.1 s.2.2.1, .int .i64 s.2.2.2, undef, undef, undef, undef, undef, undef, undef, undef, undef, undef, undef, .slice (some ⟨b4, 0, none⟩) 4 4, u1 21, u1 22, u1 23, u1 24, u1 25, u1 26, u1 27, u1 28, u1 29, u1 30, u1 31, u1 32, u1 33, u1 34, undef, undef, undef, undef, undef, undef, undef, undef, undef, undef, undef, undef, undef, undef, undef, undef, undef, undef, undef, undef, undef, undef, undef, undef, undef, undef, undef, undef, undef, undef, undef, undef, undef, undef, undef, undef, undef, undef, undef, undef, undef, undef, undef, undef, undef, undef, undef, undef, undef, undef, undef, undef, undef, undef, undef, undef, undef, undef, undef, undef, undef, undef, undef, undef, undef, undef, undef, undef, undef, undef, undef, undef, undef, undef, undef, undef, undef, undef, undef, undef, undef, undef, undef, undef, undef, undef, undef, undef, undef, undef, undef, undef, undef, undef, undef, undef, undef, undef], []⟩) (fun s w => I1 s.1 s.2.1 s.2.2.1 s.2.2.2 w) (fun s w => μ1 s.1 s.2.1 s.2.2.1 s.2.2.2 w) ((some ⟨b4, 0, none⟩), 4, 4, 0) (qaa) hI1 ?_
 rintro ⟨A1, n1, c1, x2⟩ a w5 ⟨u1, rfl⟩ hI1
 have h := hB1 A1 n1 c1 x2 w5 hI1
 refine wp_seq (wp_seq (qx (qbr (qz (wp_cond_split (t := (decide (x2 < 8))) (by kernel_rfl) (fun hb => ?_) (fun hb => ?_))))))
 ·replace h := h.1 (of_decide_eq_true hb)
  refine wp_skip (qz (wp_seq (wp_block (qx (qbt 6 ?_)))))
  obtain ⟨h1, h2, h3, h4, h⟩ := h
  refine qq (qbb (b := b1) (off := 0) (n := 32) (lo := (IntKind.i64.wrap (4 * x2))) (hi := (IntKind.i64.wrap ((IntKind.i64.wrap (4 * x2)) + 4))) (mx := 32) rfl (.inr ⟨_, .i64, rfl, by kernel_rfl⟩) (.inr ⟨_, .i64, rfl, by kernel_rfl⟩) (.inl ⟨rfl, rfl⟩) (by simp) Tryz.underlying22 Tryz.sizeOf5 h1 h2 h3 h4 ?_)
  intro A2 e1; replace h := h A2 e1
  refine qq (qai (args := #[.slice A2 ((((IntKind.i64.wrap ((IntKind.i64.wrap (4 * x2)) + 4))).toNat) - (((IntKind.i64.wrap (4 * x2))).toNat)) (32 - (((IntKind.i64.wrap (4 * x2))).toNat))]) rfl Tryz.call112 (Ret.mono h ?_))
  clear h; rintro r1 w6 ⟨x3, rfl, h⟩
  refine qq (qag (cs := ([.int .u32 x3] : List Value)) rfl Tryz.underlying132 Tryz.sizeOf23 Tryz.zeroValue23 (by kernel_rfl) (by decide) (by decide) ?_)
  intro b5 w7 e1 e2; replace h := h b5 w7 e1 e2
  obtain ⟨l1, l2, h1, h2, h3, h4, h5, h6, h7, h⟩ := h
  refine qq (qad (A := A1) (n := n1) (c := c1) (B := (some ⟨b5, 0, none⟩)) (m := 1) (c2 := 1) (olds := l1) (news := l2) rfl Tryz.underlying132 Tryz.underlying132 Tryz.typeInfo23 rfl (by decide) h1 h2 h3 h4 h5 h6 h7 ?_)
  intro A3 c2 w8 e1; replace h := h A3 c2 w8 e1
  refine qbr (qu (qz (qx (qbr (qz ?_)))))
  exact ⟨(A3, (n1 + 1), c2, (IntKind.i64.wrap (x2 + 1))), qaa, h.1, h.2⟩
 ·replace h := h.2 (of_decide_eq_false hb)
  refine wp_exit (qr (qr (block_exit_eq (qz (wp_seq (qx (qbt 2 (qq (qag (cs := ([.int .u32 x1] : List Value)) rfl Tryz.underlying132 Tryz.sizeOf23 Tryz.zeroValue23 (by kernel_rfl) (by decide) (by decide) ?_)))))))))
  intro b6 w9 e1 e2; replace h := h b6 w9 e1 e2
  obtain ⟨l3, l4, h1, h2, h3, h4, h5, h6, h7, h⟩ := h
  refine qq (qad (A := A1) (n := n1) (c := c1) (B := (some ⟨b6, 0, none⟩)) (m := 1) (c2 := 1) (olds := l3) (news := l4) rfl Tryz.underlying132 Tryz.underlying132 Tryz.typeInfo23 rfl (by decide) h1 h2 h3 h4 h5 h6 h7 ?_)
  intro A4 c3 w10 e1; replace h := h A4 c3 w10 e1
  refine qbr (qz (wp_seq (wp_seq (qx (qbr (qz (wp_block ?_)))))))
  obtain ⟨I2, μ2, hI2, hB2⟩ := h
  refine wp_loop_st (σ := (Option Addr) × Nat × Nat × Int) (fun s a => ∃ u2 : Nat → Value, a = ⟨#[.agg d1.toArray, .agg d2.toArray, .int .u32 x1, .pointer (some ⟨b1, 0, none⟩), .pointer (some ⟨b2, 0, none⟩), undef, .pointer (some ⟨b3, 0, none⟩), .slice s.1 s.2.1 s.2.2.1, .int .i64 x2, .int .i64 s.2.2.2, undef, undef, undef, undef, undef, undef, undef, undef, undef, undef, .slice (some ⟨b4, 0, none⟩) 4 4, .int .i64 x2, .bool (decide (x2 < 8)), u1 23, u1 24, u1 25, u1 26, u1 27, u1 28, u1 29, u1 30, u1 31, u1 32, u1 33, u1 34, .slice A1 n1 c1, .int .u32 x1, .slice (some ⟨b6, 0, none⟩) 1 1, .slice A4 (n1 + 1) c3, u2 39, u2 40, u2 41, u2 42, u2 43, u2 44, u2 45, u2 46, u2 47, u2 48, u2 49, u2 50, u2 51, u2 52, undef, undef, undef, undef, undef, undef, undef, undef, undef, undef, undef, undef, undef, undef, undef, undef, undef, undef, undef, undef, undef, undef, undef, undef, undef, undef, undef, undef, undef, undef, undef, undef, undef, undef, undef, undef, undef, undef, undef, undef, undef, undef, undef, undef, undef, undef, undef, undef, undef, undef, undef, undef, undef, undef, undef, undef, undef, undef, undef, undef, undef, undef, undef, undef, undef, undef, undef, undef, undef, undef, undef, undef, undef, undef, undef, undef, undef, undef, undef, undef], []⟩) (fun s w => I2 s.1 s.2.1 s.2.2.1 s.2.2.2 w) (fun s w => μ2 s.1 s.2.1 s.2.2.1 s.2.2.2 w) (A4, (n1 + 1), c3, 0) (qaa) hI2 ?_
  rintro ⟨A5, n2, c4, x4⟩ a w11 ⟨u2, rfl⟩ hI2
  have h := hB2 A5 n2 c4 x4 w11 hI2
  refine wp_seq (wp_seq (qx (qbr (qz (wp_cond_split (t := (decide (x4 < 3))) (by kernel_rfl) (fun hb => ?_) (fun hb => ?_))))))
  ·replace h := h.1 (of_decide_eq_true hb)
   refine wp_skip (qz (wp_seq (wp_block (qx (qbt 6 ?_)))))
   obtain ⟨h1, h2, h3, h4, h⟩ := h
   refine qq (qbb (b := b2) (off := 0) (n := 12) (lo := (IntKind.i64.wrap (4 * x4))) (hi := (IntKind.i64.wrap ((IntKind.i64.wrap (4 * x4)) + 4))) (mx := 12) rfl (.inr ⟨_, .i64, rfl, by kernel_rfl⟩) (.inr ⟨_, .i64, rfl, by kernel_rfl⟩) (.inl ⟨rfl, rfl⟩) (by simp) Tryz.underlying130 Tryz.sizeOf5 h1 h2 h3 h4 ?_)
   intro A6 e1; replace h := h A6 e1
   refine qq (qai (args := #[.slice A6 ((((IntKind.i64.wrap ((IntKind.i64.wrap (4 * x4)) + 4))).toNat) - (((IntKind.i64.wrap (4 * x4))).toNat)) (12 - (((IntKind.i64.wrap (4 * x4))).toNat))]) rfl Tryz.call112 (Ret.mono h ?_))
   clear h; rintro r2 w12 ⟨x5, rfl, h⟩
   refine qq (qag (cs := ([.int .u32 x5] : List Value)) rfl Tryz.underlying132 Tryz.sizeOf23 Tryz.zeroValue23 (by kernel_rfl) (by decide) (by decide) ?_)
   intro b7 w13 e1 e2; replace h := h b7 w13 e1 e2
   obtain ⟨l5, l6, h1, h2, h3, h4, h5, h6, h7, h⟩ := h
   refine qq (qad (A := A5) (n := n2) (c := c4) (B := (some ⟨b7, 0, none⟩)) (m := 1) (c2 := 1) (olds := l5) (news := l6) rfl Tryz.underlying132 Tryz.underlying132 Tryz.typeInfo23 rfl (by decide) h1 h2 h3 h4 h5 h6 h7 ?_)
   intro A7 c5 w14 e1; replace h := h A7 c5 w14 e1
   refine qbr (qu (qz (qx (qbr (qz ?_)))))
   exact ⟨(A7, (n2 + 1), c5, (IntKind.i64.wrap (x4 + 1))), qaa, h.1, h.2⟩
  ·replace h := h.2 (of_decide_eq_false hb)
   refine wp_exit (qr (qr (block_exit_eq (qz (wp_seq (qx (qbt 1 ?_)))))))
   obtain ⟨l7, l8, h1, h2, h3, h4, h5, h6, h7, h⟩ := h
   refine qq (qad (A := none) (n := 0) (c := 0) (B := A5) (m := n2) (c2 := c4) (olds := l7) (news := l8) rfl Tryz.underlying132 Tryz.underlying132 Tryz.typeInfo23 rfl (by decide) h1 h2 h3 h4 h5 h6 h7 ?_)
   intro A8 c6 w15 e1; replace h := h A8 c6 w15 e1
   refine qbr (qz (wp_seq (wp_seq (qx (qbr (qz (wp_block ?_)))))))
   obtain ⟨I3, μ3, hI3, hB3⟩ := h
   refine wp_loop_st (σ := Int) (fun s a => ∃ u3 : Nat → Value, a = ⟨#[.agg d1.toArray, .agg d2.toArray, .int .u32 x1, .pointer (some ⟨b1, 0, none⟩), .pointer (some ⟨b2, 0, none⟩), undef, .pointer (some ⟨b3, 0, none⟩), .slice A5 n2 c4, .int .i64 x2, .int .i64 x4, .slice A8 (0 + n2) c6, .int .i64 s, undef, u3 13, u3 14, u3 15, undef, undef, undef, undef, .slice (some ⟨b4, 0, none⟩) 4 4, .int .i64 x2, .bool (decide (x2 < 8)), u1 23, u1 24, u1 25, u1 26, u1 27, u1 28, u1 29, u1 30, u1 31, u1 32, u1 33, u1 34, .slice A1 n1 c1, .int .u32 x1, .slice (some ⟨b6, 0, none⟩) 1 1, .slice A4 (n1 + 1) c3, .int .i64 x4, .bool (decide (x4 < 3)), u2 41, u2 42, u2 43, u2 44, u2 45, u2 46, u2 47, u2 48, u2 49, u2 50, u2 51, u2 52, .slice A5 n2 c4, .slice A8 (0 + n2) c6, u3 55, u3 56, u3 57, u3 58, u3 59, u3 60, u3 61, u3 62, u3 63, u3 64, u3 65, u3 66, u3 67, u3 68, u3 69, u3 70, u3 71, u3 72, u3 73, u3 74, u3 75, u3 76, u3 77, u3 78, u3 79, u3 80, u3 81, u3 82, u3 83, u3 84, u3 85, u3 86, u3 87, u3 88, u3 89, u3 90, u3 91, u3 92, u3 93, u3 94, u3 95, u3 96, u3 97, u3 98, u3 99, u3 100, u3 101, u3 102, u3 103, u3 104, undef, undef, undef, undef, undef, undef, undef, undef, undef, undef, undef, undef, undef, undef, undef, undef, undef, undef, undef, undef, undef, undef, undef, undef, undef, undef, undef, undef], []⟩) (fun s w => I3 s w) (fun s w => μ3 s w) (0) (qaa) hI3 ?_
   rintro x6 a w16 ⟨u3, rfl⟩ hI3
   have h := hB3 x6 w16 hI3
   refine wp_seq (wp_seq (qx (qbr (qz (wp_cond_split (t := (decide (x6 < 10))) (by kernel_rfl) (fun hb => ?_) (fun hb => ?_))))))
   ·replace h := h.1 (of_decide_eq_true hb)
    refine wp_skip (qz (wp_seq (wp_block (wp_seq (qx (qq (qai (args := #[]) rfl Tryz.call113 (Ret.mono h ?_))))))))
    clear h; rintro r3 w17 ⟨A9, n3, c7, rfl, h⟩
    refine qbr (qz (wp_block ?_))
    obtain ⟨I4, μ4, hI4, hB4⟩ := h
    refine wp_loop_st (σ := Int) (fun s a => ∃ u4 : Nat → Value, a = ⟨#[.agg d1.toArray, .agg d2.toArray, .int .u32 x1, .pointer (some ⟨b1, 0, none⟩), .pointer (some ⟨b2, 0, none⟩), undef, .pointer (some ⟨b3, 0, none⟩), .slice A5 n2 c4, .int .i64 x2, .int .i64 x4, .slice A8 (0 + n2) c6, .int .i64 x6, undef, u4 13, u4 14, u4 15, undef, undef, undef, undef, .slice (some ⟨b4, 0, none⟩) 4 4, .int .i64 x2, .bool (decide (x2 < 8)), u1 23, u1 24, u1 25, u1 26, u1 27, u1 28, u1 29, u1 30, u1 31, u1 32, u1 33, u1 34, .slice A1 n1 c1, .int .u32 x1, .slice (some ⟨b6, 0, none⟩) 1 1, .slice A4 (n1 + 1) c3, .int .i64 x4, .bool (decide (x4 < 3)), u2 41, u2 42, u2 43, u2 44, u2 45, u2 46, u2 47, u2 48, u2 49, u2 50, u2 51, u2 52, .slice A5 n2 c4, .slice A8 (0 + n2) c6, .int .i64 x6, .bool (decide (x6 < 10)), u3 57, u3 58, .slice A9 n3 c7, .int .i64 (n3 : Int), .int .i64 s, u4 62, u4 63, u4 64, u4 65, u4 66, u4 67, u4 68, u4 69, u4 70, u4 71, u4 72, u4 73, u4 74, u4 75, u4 76, u4 77, u4 78, u4 79, u4 80, u4 81, u4 82, u4 83, u4 84, u4 85, u4 86, u4 87, u4 88, u4 89, u4 90, u4 91, u4 92, u4 93, u4 94, u4 95, u4 96, u4 97, u4 98, u4 99, u4 100, u4 101, u4 102, u4 103, u4 104, undef, undef, undef, undef, undef, undef, undef, undef, undef, undef, undef, undef, undef, undef, undef, undef, undef, undef, undef, undef, undef, undef, undef, undef, undef, undef, undef, undef], []⟩) (fun s w => I4 s w) (fun s w => μ4 s w) (0) (qaa) hI4 ?_
    rintro x7 a w18 ⟨u4, rfl⟩ hI4
    have h := hB4 x7 w18 hI4
    refine wp_seq (qx (qbr (qz (wp_seq (wp_cond_split (t := (decide (x7 < (n3 : Int)))) (by kernel_rfl) (fun hb => ?_) (fun hb => ?_))))))
    ·replace h := h.1 (of_decide_eq_true hb)
     refine wp_skip (qz (wp_seq (wp_block (wp_seq (qx ?_)))))
     obtain ⟨b8, o1, rfl, h⟩ := h
     obtain ⟨h1, h2, h⟩ := h
     refine qq (qan (k := .i64) (j := x7) (b := b8) (off := o1) (n := n3) (c := c7) rfl Tryz.underlying184 Tryz.sizeOf30 h1 h2 ?_)
     obtain ⟨A10, n4, c8, hx, h⟩ := h
     refine qq (qap (v := .slice A10 n4 c8) rfl Tryz.isAgg30 hx ?_)
     refine qbr (qz ?_)
     obtain ⟨J1, hJ1, h⟩ := h
     refine wp_seq_join (σ := (Option Addr)) (fun s vj1 => ⟨#[.agg d1.toArray, .agg d2.toArray, .int .u32 x1, .pointer (some ⟨b1, 0, none⟩), .pointer (some ⟨b2, 0, none⟩), undef, .pointer (some ⟨b3, 0, none⟩), .slice A5 n2 c4, .int .i64 x2, .int .i64 x4, .slice A8 (0 + n2) c6, .int .i64 x6, undef, .slice A10 n4 c8, .pointer s, u4 15, undef, undef, undef, undef, .slice (some ⟨b4, 0, none⟩) 4 4, .int .i64 x2, .bool (decide (x2 < 8)), u1 23, u1 24, u1 25, u1 26, u1 27, u1 28, u1 29, u1 30, u1 31, u1 32, u1 33, u1 34, .slice A1 n1 c1, .int .u32 x1, .slice (some ⟨b6, 0, none⟩) 1 1, .slice A4 (n1 + 1) c3, .int .i64 x4, .bool (decide (x4 < 3)), u2 41, u2 42, u2 43, u2 44, u2 45, u2 46, u2 47, u2 48, u2 49, u2 50, u2 51, u2 52, .slice A5 n2 c4, .slice A8 (0 + n2) c6, .int .i64 x6, .bool (decide (x6 < 10)), u3 57, u3 58, .slice (some ⟨b8, o1, none⟩) n3 c7, .int .i64 (n3 : Int), .int .i64 x7, .bool (decide (x7 < (n3 : Int))), .pointer (some ⟨b8, (o1 + (x7).toNat * 1), none⟩), .slice A10 n4 c8, vj1 65, vj1 66, vj1 67, vj1 68, vj1 69, vj1 70, vj1 71, vj1 72, vj1 73, vj1 74, vj1 75, vj1 76, vj1 77, vj1 78, vj1 79, vj1 80, vj1 81, vj1 82, vj1 83, vj1 84, vj1 85, vj1 86, vj1 87, vj1 88, vj1 89, vj1 90, u4 91, u4 92, u4 93, u4 94, u4 95, u4 96, u4 97, u4 98, u4 99, u4 100, u4 101, u4 102, u4 103, u4 104, undef, undef, undef, undef, undef, undef, undef, undef, undef, undef, undef, undef, undef, undef, undef, undef, undef, undef, undef, undef, undef, undef, undef, undef, undef, undef, undef, undef], []⟩) (fun s w => J1 s w) ?_ ?_
     ·clear h; rintro p2 vj1 w19 hj
      have h := hJ1 p2 w19 hj
      refine wp_seq (qx (qbr (qz (wp_block ?_))))
      obtain ⟨I5, μ5, hI5, hB5⟩ := h
      refine wp_loop_st (σ := Int) (fun s a => ∃ u5 : Nat → Value, a = ⟨#[.agg d1.toArray, .agg d2.toArray, .int .u32 x1, .pointer (some ⟨b1, 0, none⟩), .pointer (some ⟨b2, 0, none⟩), undef, .pointer (some ⟨b3, 0, none⟩), .slice A5 n2 c4, .int .i64 x2, .int .i64 x4, .slice A8 (0 + n2) c6, .int .i64 x6, undef, .slice A10 n4 c8, .pointer p2, .int .i64 s, undef, undef, undef, undef, .slice (some ⟨b4, 0, none⟩) 4 4, .int .i64 x2, .bool (decide (x2 < 8)), u1 23, u1 24, u1 25, u1 26, u1 27, u1 28, u1 29, u1 30, u1 31, u1 32, u1 33, u1 34, .slice A1 n1 c1, .int .u32 x1, .slice (some ⟨b6, 0, none⟩) 1 1, .slice A4 (n1 + 1) c3, .int .i64 x4, .bool (decide (x4 < 3)), u2 41, u2 42, u2 43, u2 44, u2 45, u2 46, u2 47, u2 48, u2 49, u2 50, u2 51, u2 52, .slice A5 n2 c4, .slice A8 (0 + n2) c6, .int .i64 x6, .bool (decide (x6 < 10)), u3 57, u3 58, .slice (some ⟨b8, o1, none⟩) n3 c7, .int .i64 (n3 : Int), .int .i64 x7, .bool (decide (x7 < (n3 : Int))), .pointer (some ⟨b8, (o1 + (x7).toNat * 1), none⟩), .slice A10 n4 c8, vj1 65, vj1 66, vj1 67, vj1 68, vj1 69, vj1 70, vj1 71, vj1 72, vj1 73, vj1 74, vj1 75, vj1 76, vj1 77, vj1 78, vj1 79, vj1 80, vj1 81, vj1 82, vj1 83, vj1 84, vj1 85, vj1 86, vj1 87, vj1 88, vj1 89, vj1 90, u5 91, u5 92, u5 93, u5 94, u5 95, u5 96, u5 97, u5 98, u5 99, u5 100, u5 101, u5 102, u5 103, u4 104, undef, undef, undef, undef, undef, undef, undef, undef, undef, undef, undef, undef, undef, undef, undef, undef, undef, undef, undef, undef, undef, undef, undef, undef, undef, undef, undef, undef], []⟩) (fun s w => I5 s w) (fun s w => μ5 s w) (0) (qaa) hI5 ?_
      rintro x8 a w20 ⟨u5, rfl⟩ hI5
      have h := hB5 x8 w20 hI5
      refine wp_seq (wp_seq (qx (qbr (qz (wp_cond_split (t := (decide (x8 < 4))) (by kernel_rfl) (fun hb => ?_) (fun hb => ?_))))))
      ·replace h := h.1 (of_decide_eq_true hb)
       refine wp_skip (qz (wp_seq (wp_block (qbj (Keep w20) [9] ?_))))
       intro w21 e1; have hK1 := keep_drew e1; replace h := h w21 e1
       refine qbo 0 rfl (qbz (v := .slice A8 (0 + n2) c6)) (qbo 1 rfl (qbz (v := .slice A10 n4 c8)) (qbo 2 rfl (qbz (v := .int .i64 x8)) ?_))
       obtain ⟨b9, o2, rfl, h⟩ := h
       obtain ⟨h1, h2, h⟩ := h
       refine qbo 3 rfl (qbu (k := .i64) (j := x8) (b := b9) (off := o2) (n := n4) (c := c8) rfl Tryz.underlying30 Tryz.sizeOf3 h1 h2) ?_
       obtain ⟨x9, hx, h⟩ := h
       refine qbn 4 rfl (qbw (v := .int .i64 x9) rfl Tryz.isAgg3 (fun _ hk => keep_cell hk hx)) hK1 ?_
       refine qbo 5 rfl (qbz (v := .int .i64 x8)) ?_
       obtain ⟨b10, o3, rfl, h⟩ := h
       obtain ⟨h1, h2, h⟩ := h
       refine qbo 6 rfl (qbv (k := .i64) (j := x8) (b := b10) (off := o3) rfl Tryz.underlying178 Tryz.sizeOf23 h1 h2) ?_
       obtain ⟨x10, hx, h⟩ := h
       refine qbn 7 rfl (qbw (v := .int .u32 x10) rfl Tryz.isAgg23 (fun _ hk => keep_cell hk hx)) hK1 ?_
       obtain ⟨b11, o4, rfl, h⟩ := h
       obtain ⟨h1, h2, h⟩ := h
       refine qbo 8 rfl (qbu (k := .i64) (j := x9) (b := b11) (off := o4) (n := (0 + n2)) (c := c6) rfl Tryz.underlying132 Tryz.sizeOf23 h1 h2) ?_
       obtain ⟨hc, hf, h⟩ := h
       refine qbm 9 rfl (qbc (v := .int .u32 x10) rfl Tryz.sizeOf23 rfl hc hf ?_)
       intro w22 e1; replace h := h w22 e1
       refine ⟨fun hh => absurd hh (by decide), ?_⟩
       refine qbk (qu (qz (qx (qbr (qz ?_)))))
       exact ⟨((IntKind.i64.wrap (x8 + 1))), qaa, h.1, h.2⟩
      ·replace h := h.2 (of_decide_eq_false hb)
       refine wp_exit (qr (qr (block_exit_eq (qu (qz (qx (qbr (qz ?_))))))))
       exact ⟨((IntKind.i64.wrap (x7 + 1))), qaa, h.1, h.2⟩
     ·clear hJ1
      refine qbj (Keep w18) [25, 27] ?_
      intro w23 e1; have hK2 := keep_drew e1; replace h := h w23 e1; have hz1 : w18.heap.size ≤ w23.heap.size := (by rw [e1]; exact Nat.le_refl _)
      refine qbo 0 rfl (qbz (v := .slice A8 (0 + n2) c6)) (qbo 1 rfl (qbz (v := .slice A10 n4 c8)) ?_)
      obtain ⟨b12, o5, rfl, h⟩ := h
      obtain ⟨h1, h2, h⟩ := h
      refine qbo 2 rfl (qbu (k := .i64) (j := 0) (b := b12) (off := o5) (n := n4) (c := c8) rfl Tryz.underlying30 Tryz.sizeOf3 h1 h2) ?_
      obtain ⟨x11, hx, h⟩ := h
      refine qbn 3 rfl (qbw (v := .int .i64 x11) rfl Tryz.isAgg3 (fun _ hk => keep_cell hk hx)) hK2 ?_
      obtain ⟨b13, o6, rfl, h⟩ := h
      obtain ⟨h1, h2, h⟩ := h
      refine qbo 4 rfl (qbu (k := .i64) (j := x11) (b := b13) (off := o6) (n := (0 + n2)) (c := c6) rfl Tryz.underlying132 Tryz.sizeOf23 h1 h2) ?_
      obtain ⟨x12, hx, h⟩ := h
      refine qbn 5 rfl (qbw (v := .int .u32 x12) rfl Tryz.isAgg23 (fun _ hk => keep_cell hk hx)) hK2 ?_
      refine qbo 6 rfl (qbz (v := .slice (some ⟨b13, o6, none⟩) (0 + n2) c6)) (qbo 7 rfl (qbz (v := .slice (some ⟨b12, o5, none⟩) n4 c8)) ?_)
      obtain ⟨h1, h2, h⟩ := h
      refine qbo 8 rfl (qbu (k := .i64) (j := 1) (b := b12) (off := o5) (n := n4) (c := c8) rfl Tryz.underlying30 Tryz.sizeOf3 h1 h2) ?_
      obtain ⟨x13, hx, h⟩ := h
      refine qbn 9 rfl (qbw (v := .int .i64 x13) rfl Tryz.isAgg3 (fun _ hk => keep_cell hk hx)) hK2 ?_
      obtain ⟨h1, h2, h⟩ := h
      refine qbo 10 rfl (qbu (k := .i64) (j := x13) (b := b13) (off := o6) (n := (0 + n2)) (c := c6) rfl Tryz.underlying132 Tryz.sizeOf23 h1 h2) ?_
      obtain ⟨x14, hx, h⟩ := h
      refine qbn 11 rfl (qbw (v := .int .u32 x14) rfl Tryz.isAgg23 (fun _ hk => keep_cell hk hx)) hK2 ?_
      refine qbo 12 rfl (qbz (v := .slice (some ⟨b13, o6, none⟩) (0 + n2) c6)) (qbo 13 rfl (qbz (v := .slice (some ⟨b12, o5, none⟩) n4 c8)) ?_)
      obtain ⟨h1, h2, h⟩ := h
      refine qbo 14 rfl (qbu (k := .i64) (j := 2) (b := b12) (off := o5) (n := n4) (c := c8) rfl Tryz.underlying30 Tryz.sizeOf3 h1 h2) ?_
      obtain ⟨x15, hx, h⟩ := h
      refine qbn 15 rfl (qbw (v := .int .i64 x15) rfl Tryz.isAgg3 (fun _ hk => keep_cell hk hx)) hK2 ?_
      obtain ⟨h1, h2, h⟩ := h
      refine qbo 16 rfl (qbu (k := .i64) (j := x15) (b := b13) (off := o6) (n := (0 + n2)) (c := c6) rfl Tryz.underlying132 Tryz.sizeOf23 h1 h2) ?_
      obtain ⟨x16, hx, h⟩ := h
      refine qbn 17 rfl (qbw (v := .int .u32 x16) rfl Tryz.isAgg23 (fun _ hk => keep_cell hk hx)) hK2 ?_
      refine qbo 18 rfl (qbz (v := .slice (some ⟨b13, o6, none⟩) (0 + n2) c6)) (qbo 19 rfl (qbz (v := .slice (some ⟨b12, o5, none⟩) n4 c8)) ?_)
      obtain ⟨h1, h2, h⟩ := h
      refine qbo 20 rfl (qbu (k := .i64) (j := 3) (b := b12) (off := o5) (n := n4) (c := c8) rfl Tryz.underlying30 Tryz.sizeOf3 h1 h2) ?_
      obtain ⟨x17, hx, h⟩ := h
      refine qbn 21 rfl (qbw (v := .int .i64 x17) rfl Tryz.isAgg3 (fun _ hk => keep_cell hk hx)) hK2 ?_
      obtain ⟨h1, h2, h⟩ := h
      refine qbo 22 rfl (qbu (k := .i64) (j := x17) (b := b13) (off := o6) (n := (0 + n2)) (c := c6) rfl Tryz.underlying132 Tryz.sizeOf23 h1 h2) ?_
      obtain ⟨x18, hx, h⟩ := h
      refine qbn 23 rfl (qbw (v := .int .u32 x18) rfl Tryz.isAgg23 (fun _ hk => keep_cell hk hx)) hK2 ?_
      refine qbo 24 rfl (qbz (v := .agg #[.int .u32 x12, .int .u32 x14, .int .u32 x16, .int .u32 x18])) ?_
      have hE1_0 : Ext w23 w23 := Mod.refl _ _; have hF1_0 := Fl.nil w23
      refine qbq 25 26 rfl rfl ?_ ?_
      ·
       replace h := h  w23 hE1_0 (hF1_0.sub (by simp [Value.cells]))
       refine (qai (args := #[.agg #[.int .u32 x12, .int .u32 x14, .int .u32 x16, .int .u32 x18]]) rfl Tryz.call114 (Ret.mono h ?_))
       clear h; rintro r4 wq1_0 ⟨x19, x20, x21, x22, rfl, hkf, h⟩
       have hE1_1 : Ext wq1_0 wq1_0 := Mod.refl _ _; have hF1_1 := hF1_0.call hkf; have hz1_1 : w18.heap.size ≤ wq1_0.heap.size := (by have := hkf.1; omega)
       refine ⟨fun hh => absurd hh (by decide), ?_⟩
       refine qbm 26 rfl ((qac rfl Tryz.zeroValue178 ?_))
       intro bF1_26 wz1 e1 e2
       have hA := (Mod.refl (fun _ => False) wq1_0).alloc e2
       have hE1_2 := hE1_1.trans hA; have hF1_2 := hF1_1.alloc (cs := #[.int .u32 0, .int .u32 0, .int .u32 0, .int .u32 0]) (t := 178) e1 e2; have hz1_2 : w18.heap.size ≤ wz1.heap.size := (by have := hA.size; omega)
       refine ⟨fun _ hk => Keep.of_ext hk hz1_1 hA, ?_⟩
       replace h := h bF1_26 wz1 hE1_2 (hF1_2.sub (by simp [Value.cells]))
       obtain ⟨hw, h⟩ := h
       refine qbm 27 rfl (qbd (cs := ([.int .u32 x19, .int .u32 x20, .int .u32 x21, .int .u32 x22] : List Value)) rfl Tryz.sizeOf178 rfl (qab) hw ?_)
       intro w1024 e1; replace h := h w1024 e1
       refine ⟨fun hh => absurd hh (by decide), ?_⟩
       refine qbk (qz ?_)
       exact ⟨((some ⟨bF1_26, 0, none⟩)), h, qaa⟩
      ·
       refine (qac rfl Tryz.zeroValue178 ?_)
       intro bF1_26 w1025 e1 e2
       have hA := (Mod.refl (fun _ => False) w23).alloc e2
       have hE1_1003 := hE1_0.trans hA; have hF1_1003 := hF1_0.alloc (cs := #[.int .u32 0, .int .u32 0, .int .u32 0, .int .u32 0]) (t := 178) e1 e2; have hz1_1003 : w18.heap.size ≤ w1025.heap.size := (by have := hA.size; omega)
       refine ⟨fun _ hk => Keep.of_ext hk hz1 hA, ?_⟩
       refine qbm 25 rfl ?_
       replace h := h  w1025 hE1_1003 (hF1_1003.sub (by simp [Value.cells]))
       refine (qai (args := #[.agg #[.int .u32 x12, .int .u32 x14, .int .u32 x16, .int .u32 x18]]) rfl Tryz.call114 (Ret.mono h ?_))
       clear h; rintro r1005 wz1 ⟨x19, x20, x21, x22, rfl, hkf, h⟩
       have hE1_1004 : Ext wz1 wz1 := Mod.refl _ _; have hF1_1004 := hF1_1003.call hkf; have hz1_1004 : w18.heap.size ≤ wz1.heap.size := (by have := hkf.1; omega)
       refine ⟨fun hh => absurd hh (by decide), ?_⟩
       replace h := h bF1_26 wz1 hE1_1004 (hF1_1004.sub (by simp [Value.cells]))
       obtain ⟨hw, h⟩ := h
       refine qbm 27 rfl (qbd (cs := ([.int .u32 x19, .int .u32 x20, .int .u32 x21, .int .u32 x22] : List Value)) rfl Tryz.sizeOf178 rfl (qab) hw ?_)
       intro w1024 e1; replace h := h w1024 e1
       refine ⟨fun hh => absurd hh (by decide), ?_⟩
       refine qbk (qz ?_)
       exact ⟨((some ⟨bF1_26, 0, none⟩)), h, qaa⟩
    ·replace h := h.2 (of_decide_eq_false hb)
     refine wp_exit (qr (qr (block_exit_eq (qu (qz (qx (qbr (qz ?_))))))))
     exact ⟨((IntKind.i64.wrap (x6 + 1))), qaa, h.1, h.2⟩
   ·replace h := h.2 (of_decide_eq_false hb)
    refine wp_exit (qr (qr (block_exit_eq (qz (wp_seq (qx (qq (qac rfl Tryz.zeroValue160 ?_))))))))
    intro b1014 w1026 e1 e2; replace h := h b1014 w1026 e1 e2
    refine qo (qz (wp_seq (wp_seq (qx (qbr (qz (wp_block ?_)))))))
    obtain ⟨I1006, μ1006, hI1006, hB1006⟩ := h
    refine wp_loop_st (σ := Int) (fun s a => ∃ u1006 : Nat → Value, a = ⟨#[.agg d1.toArray, .agg d2.toArray, .int .u32 x1, .pointer (some ⟨b1, 0, none⟩), .pointer (some ⟨b2, 0, none⟩), undef, .pointer (some ⟨b3, 0, none⟩), .slice A5 n2 c4, .int .i64 x2, .int .i64 x4, .slice A8 (0 + n2) c6, .int .i64 x6, undef, u3 13, u3 14, u3 15, .pointer (some ⟨b1014, 0, none⟩), .int .i64 s, u1006 18, u1006 19, .slice (some ⟨b4, 0, none⟩) 4 4, .int .i64 x2, .bool (decide (x2 < 8)), u1 23, u1 24, u1 25, u1 26, u1 27, u1 28, u1 29, u1 30, u1 31, u1 32, u1 33, u1 34, .slice A1 n1 c1, .int .u32 x1, .slice (some ⟨b6, 0, none⟩) 1 1, .slice A4 (n1 + 1) c3, .int .i64 x4, .bool (decide (x4 < 3)), u2 41, u2 42, u2 43, u2 44, u2 45, u2 46, u2 47, u2 48, u2 49, u2 50, u2 51, u2 52, .slice A5 n2 c4, .slice A8 (0 + n2) c6, .int .i64 x6, .bool (decide (x6 < 10)), u3 57, u3 58, u3 59, u3 60, u3 61, u3 62, u3 63, u3 64, u3 65, u3 66, u3 67, u3 68, u3 69, u3 70, u3 71, u3 72, u3 73, u3 74, u3 75, u3 76, u3 77, u3 78, u3 79, u3 80, u3 81, u3 82, u3 83, u3 84, u3 85, u3 86, u3 87, u3 88, u3 89, u3 90, u3 91, u3 92, u3 93, u3 94, u3 95, u3 96, u3 97, u3 98, u3 99, u3 100, u3 101, u3 102, u3 103, u3 104, u1006 105, u1006 106, u1006 107, u1006 108, u1006 109, u1006 110, u1006 111, u1006 112, u1006 113, u1006 114, u1006 115, u1006 116, u1006 117, u1006 118, u1006 119, u1006 120, u1006 121, u1006 122, u1006 123, u1006 124, u1006 125, u1006 126, u1006 127, u1006 128, u1006 129, u1006 130, u1006 131, undef], []⟩) (fun s w => I1006 s w) (fun s w => μ1006 s w) (0) (qaa) hI1006 ?_
    rintro x1023 a w1027 ⟨u1006, rfl⟩ hI1006
    have h := hB1006 x1023 w1027 hI1006
    refine wp_seq (wp_seq (qx (qbr (qz (wp_cond_split (t := (decide (x1023 < 16))) (by kernel_rfl) (fun hb => ?_) (fun hb => ?_))))))
    ·replace h := h.1 (of_decide_eq_true hb)
     refine wp_skip (qz (wp_seq (wp_block (wp_seq (qbj (Keep w1027) [] ?_)))))
     intro w1028 e1; have hK1003 := keep_drew e1; replace h := h w1028 e1
     refine qbo 0 rfl (qbz (v := .slice A8 (0 + n2) c6)) (qbo 1 rfl (qbz (v := .int .i64 x1023)) ?_)
     obtain ⟨b1015, o1007, rfl, h⟩ := h
     obtain ⟨h1, h2, h⟩ := h
     refine qbo 2 rfl (qbu (k := .i64) (j := x1023) (b := b1015) (off := o1007) (n := (0 + n2)) (c := c6) rfl Tryz.underlying132 Tryz.sizeOf23 h1 h2) ?_
     obtain ⟨x1024, hx, h⟩ := h
     refine qbn 3 rfl (qbw (v := .int .u32 x1024) rfl Tryz.isAgg23 (fun _ hk => keep_cell hk hx)) hK1003 ?_
     refine qbo 4 rfl (qbz (v := .slice A5 n2 c4)) (qbo 5 rfl (qbz (v := .int .i64 x1023)) ?_)
     obtain ⟨b1016, o1008, rfl, h⟩ := h
     obtain ⟨h1, h2, h⟩ := h
     refine qbo 6 rfl (qbu (k := .i64) (j := x1023) (b := b1016) (off := o1008) (n := n2) (c := c4) rfl Tryz.underlying132 Tryz.sizeOf23 h1 h2) ?_
     obtain ⟨x1025, hx, h⟩ := h
     refine qbn 7 rfl (qbw (v := .int .u32 x1025) rfl Tryz.isAgg23 (fun _ hk => keep_cell hk hx)) hK1003 ?_
     refine qbo 8 rfl (qbz (v := .int .u32 (IntKind.u32.wrap (x1024 + x1025)))) (qbo 9 rfl (qbz (v := .int .u32 (IntKind.u32.wrap (x1024 + x1025)))) (qbk (qz (wp_seq (qx (qbr (qz (wp_block ?_))))))))
     obtain ⟨I1007, μ1007, hI1007, hB1007⟩ := h
     refine wp_loop_st (σ := Int) (fun s a => ∃ u1007 : Nat → Value, a = ⟨#[.agg d1.toArray, .agg d2.toArray, .int .u32 x1, .pointer (some ⟨b1, 0, none⟩), .pointer (some ⟨b2, 0, none⟩), undef, .pointer (some ⟨b3, 0, none⟩), .slice (some ⟨b1016, o1008, none⟩) n2 c4, .int .i64 x2, .int .i64 x4, .slice (some ⟨b1015, o1007, none⟩) (0 + n2) c6, .int .i64 x6, undef, u3 13, u3 14, u3 15, .pointer (some ⟨b1014, 0, none⟩), .int .i64 x1023, .int .u32 (IntKind.u32.wrap (x1024 + x1025)), .int .i64 s, .slice (some ⟨b4, 0, none⟩) 4 4, .int .i64 x2, .bool (decide (x2 < 8)), u1 23, u1 24, u1 25, u1 26, u1 27, u1 28, u1 29, u1 30, u1 31, u1 32, u1 33, u1 34, .slice A1 n1 c1, .int .u32 x1, .slice (some ⟨b6, 0, none⟩) 1 1, .slice A4 (n1 + 1) c3, .int .i64 x4, .bool (decide (x4 < 3)), u2 41, u2 42, u2 43, u2 44, u2 45, u2 46, u2 47, u2 48, u2 49, u2 50, u2 51, u2 52, .slice (some ⟨b1016, o1008, none⟩) n2 c4, .slice (some ⟨b1015, o1007, none⟩) (0 + n2) c6, .int .i64 x6, .bool (decide (x6 < 10)), u3 57, u3 58, u3 59, u3 60, u3 61, u3 62, u3 63, u3 64, u3 65, u3 66, u3 67, u3 68, u3 69, u3 70, u3 71, u3 72, u3 73, u3 74, u3 75, u3 76, u3 77, u3 78, u3 79, u3 80, u3 81, u3 82, u3 83, u3 84, u3 85, u3 86, u3 87, u3 88, u3 89, u3 90, u3 91, u3 92, u3 93, u3 94, u3 95, u3 96, u3 97, u3 98, u3 99, u3 100, u3 101, u3 102, u3 103, u3 104, .int .i64 x1023, .bool (decide (x1023 < 16)), u1006 107, u1006 108, .slice (some ⟨b1015, o1007, none⟩) (0 + n2) c6, .int .i64 x1023, .pointer (some ⟨b1015, (o1007 + (x1023).toNat * 1), none⟩), .int .u32 x1024, .slice (some ⟨b1016, o1008, none⟩) n2 c4, .int .i64 x1023, .pointer (some ⟨b1016, (o1008 + (x1023).toNat * 1), none⟩), .int .u32 x1025, .int .u32 (IntKind.u32.wrap (x1024 + x1025)), u1007 118, u1007 119, u1007 120, u1007 121, u1007 122, u1007 123, u1007 124, u1007 125, u1007 126, u1007 127, u1007 128, u1007 129, u1007 130, u1007 131, undef], []⟩) (fun s w => I1007 s w) (fun s w => μ1007 s w) (0) (qaa) hI1007 ?_
     rintro x1026 a w1029 ⟨u1007, rfl⟩ hI1007
     have h := hB1007 x1026 w1029 hI1007
     refine wp_seq (wp_seq (qx (qbr (qz (wp_cond_split (t := (decide (x1026 < 4))) (by kernel_rfl) (fun hb => ?_) (fun hb => ?_))))))
     ·replace h := h.1 (of_decide_eq_true hb)
      refine wp_skip (qz (wp_seq (wp_block (qx (qbt 7 ?_)))))
      obtain ⟨h1, h⟩ := h
      refine qq (qaz (k := .u32) (k2 := .i64) (x := (IntKind.u32.wrap (x1024 + x1025))) (y := (IntKind.i64.wrap (8 * x1026))) rfl h1 ?_)
      refine qbt 1 ?_
      obtain ⟨h1, h2, h⟩ := h
      refine qq (qao (k := .i64) (j := (IntKind.i64.wrap ((IntKind.i64.wrap (4 * x1023)) + x1026))) (b := b1014) (off := 0) rfl Tryz.underlying160 Tryz.sizeOf5 h1 h2 ?_)
      obtain ⟨hc, hf, h⟩ := h
      refine qq (qbc (v := .int .u8 (IntKind.u8.wrap (iShr .u32 (IntKind.u32.wrap (x1024 + x1025)) (IntKind.i64.wrap (8 * x1026))))) rfl Tryz.sizeOf5 rfl hc hf ?_)
      intro w1030 e1; replace h := h w1030 e1
      refine qo (qu (qz (qx (qbr (qz ?_)))))
      exact ⟨((IntKind.i64.wrap (x1026 + 1))), qaa, h.1, h.2⟩
     ·replace h := h.2 (of_decide_eq_false hb)
      refine wp_exit (qr (qr (block_exit_eq (qu (qz (qx (qbr (qz ?_))))))))
      exact ⟨((IntKind.i64.wrap (x1023 + 1))), qaa, h.1, h.2⟩
    ·replace h := h.2 (of_decide_eq_false hb)
     refine wp_exit (qr (qr (block_exit_eq (qz (wp_seq (qx ?_))))))
     obtain ⟨d1003, hl0, hx, h⟩ := h
     refine qq (qaq (cs := d1003) rfl Tryz.isAgg160 Tryz.sizeOf160 (by simp [hl0]) hx ?_)
     obtain ⟨hl, h1, hw, h⟩ := h
     refine qq (qbd (cs := d1003) rfl Tryz.sizeOf160 hl h1 hw ?_)
     intro w1031 e1; replace h := h w1031 e1
     refine qo (qz (wp_ret ?_))
     obtain ⟨d1004, hl0_0, hx0, h⟩ := h
     exact qbi (vs := [.agg d1004.toArray]) (v := .agg d1004.toArray) Tryz.results99 ⟨⟨b3, 0, by kernel_rfl, run_loadN Tryz.isAgg160 Tryz.sizeOf160 (by simp [hl0_0]) hx0⟩, trivial⟩ h
def S_107 (d1 : List Value) (d2 : List Value) (x1 : Int) (w : World) (Q : Value → World → Prop) : Prop :=
 ∀ b1 w1, b1 = w.heap.size → w1 = w.alloc (.cells d1.toArray 22) →
 ∀ b2 w2, b2 = w1.heap.size → w2 = w1.alloc (.cells d2.toArray 130) →
 ∀ b3 w3, b3 = w2.heap.size → w3 = w2.alloc (.cells (List.replicate 16 (.int .u32 0 : Value)).toArray 176) →
 ∀ b4 w4, b4 = w3.heap.size → w4 = w3.alloc (.cells (List.replicate 16 (.int .u32 0 : Value)).toArray 176) →
 w4.there b4 0 16 ∧
 ∀ w5, w5 = w4.setCells b4 0 (([.int .u32 1634760805, .int .u32 857760878, .int .u32 2036477234, .int .u32 1797285236] : List Value) ++ (List.replicate 12 (.int .u32 0 : Value))) →
 ∃ (I1 : Int → World → Prop) (μ1 : Int → World → Nat), I1 0 w5 ∧
 ∀ x2 w6, I1 x2 w6 →
 (x2 < 8 →
 (0 : Int) ≤ (IntKind.i64.wrap (4 * x2)) ∧ ((IntKind.i64.wrap (4 * x2)) : Int) ≤ 32 ∧ (32 : Int) ≤ 32 ∧ (32 : Int) ≤ 32 ∧
 ∀ A1, A1 = cutA (some ⟨b1, 0, none⟩) (((IntKind.i64.wrap (4 * x2))).toNat) 32 1 →
 Ret Tryz.prog 116 #[.slice A1 (32 - (((IntKind.i64.wrap (4 * x2))).toNat)) (32 - (((IntKind.i64.wrap (4 * x2))).toNat))] w6 fun r1 w7 => ∃ x3, r1 = .int .u32 x3 ∧
 0 ≤ (IntKind.i64.wrap (4 + x2)) ∧ (IntKind.i64.wrap (4 + x2)) < 16 ∧
 (w7.cell? ⟨b4, (0 + ((IntKind.i64.wrap (4 + x2))).toNat * 1), none⟩).isSome = true ∧ w7.frozen? ⟨b4, (0 + ((IntKind.i64.wrap (4 + x2))).toNat * 1), none⟩ = false ∧
 ∀ w8, w8 = w7.setCell ⟨b4, (0 + ((IntKind.i64.wrap (4 + x2))).toNat * 1), none⟩ (.int .u32 x3) →
 I1 (IntKind.i64.wrap (x2 + 1)) w8 ∧ μ1 (IntKind.i64.wrap (x2 + 1)) w8 < μ1 x2 w6) ∧
 (¬ x2 < 8 →
 (w6.cell? ⟨b4, 12, none⟩).isSome = true ∧ w6.frozen? ⟨b4, 12, none⟩ = false ∧
 ∀ w9, w9 = w6.setCell ⟨b4, 12, none⟩ (.int .u32 x1) →
 ∃ (I2 : Int → World → Prop) (μ2 : Int → World → Nat), I2 0 w9 ∧
 ∀ x4 w10, I2 x4 w10 →
 (x4 < 3 →
 (0 : Int) ≤ (IntKind.i64.wrap (4 * x4)) ∧ ((IntKind.i64.wrap (4 * x4)) : Int) ≤ 12 ∧ (12 : Int) ≤ 12 ∧ (12 : Int) ≤ 12 ∧
 ∀ A2, A2 = cutA (some ⟨b2, 0, none⟩) (((IntKind.i64.wrap (4 * x4))).toNat) 12 1 →
 Ret Tryz.prog 116 #[.slice A2 (12 - (((IntKind.i64.wrap (4 * x4))).toNat)) (12 - (((IntKind.i64.wrap (4 * x4))).toNat))] w10 fun r2 w11 => ∃ x5, r2 = .int .u32 x5 ∧
 0 ≤ (IntKind.i64.wrap (13 + x4)) ∧ (IntKind.i64.wrap (13 + x4)) < 16 ∧
 (w11.cell? ⟨b4, (0 + ((IntKind.i64.wrap (13 + x4))).toNat * 1), none⟩).isSome = true ∧ w11.frozen? ⟨b4, (0 + ((IntKind.i64.wrap (13 + x4))).toNat * 1), none⟩ = false ∧
 ∀ w12, w12 = w11.setCell ⟨b4, (0 + ((IntKind.i64.wrap (13 + x4))).toNat * 1), none⟩ (.int .u32 x5) →
 I2 (IntKind.i64.wrap (x4 + 1)) w12 ∧ μ2 (IntKind.i64.wrap (x4 + 1)) w12 < μ2 x4 w10) ∧
 (¬ x4 < 3 →
 ∃ (d3 : List Value), d3.length = 16 ∧ w10.rangeAt b4 0 d3 ∧
 d3.length = 16 ∧ One d3 ∧ w10.there b3 0 16 ∧
 ∀ w13, w13 = w10.setCells b3 0 d3 →
 ∃ (d4 : List Value), d4.length = 16 ∧ w13.rangeAt b3 0 d4 ∧ Q (.agg d4.toArray) w13))
theorem L_107 (d1 : List Value) (d2 : List Value) (x1 : Int) (w : World) (Q : Value → World → Prop) (hp0 : d1.length = 32) (hp1 : d2.length = 12) (h : S_107 d1 d2 x1 w Q) : Ret Tryz.prog 107 #[.agg d1.toArray, .agg d2.toArray, .int .u32 x1] w Q := by
 unfold S_107 at h
 refine ret_of_wp Tryz.func107 rfl (wp_seq (qx (qq (qaf (v := .agg d1.toArray) rfl ?_))))
 intro b1 w1 e1 e2; replace h := h b1 w1 e1 e2
 refine qq (qaf (v := .agg d2.toArray) rfl ?_)
 intro b2 w2 e1 e2; replace h := h b2 w2 e1 e2
 refine qq (qac rfl Tryz.zeroValue176 ?_)
 intro b3 w3 e1 e2; replace h := h b3 w3 e1 e2
 refine qo (qz (wp_seq (qx (qbt 1 (qq (qac rfl Tryz.zeroValue176 ?_))))))
 intro b4 w4 e1 e2; replace h := h b4 w4 e1 e2
 obtain ⟨hw, h⟩ := h
 refine qq (qbd (cs := (([.int .u32 1634760805, .int .u32 857760878, .int .u32 2036477234, .int .u32 1797285236] : List Value) ++ (List.replicate 12 (.int .u32 0 : Value)))) rfl Tryz.sizeOf176 rfl (qab) hw ?_)
 intro w5 e1; replace h := h w5 e1
 refine qo (qz (wp_seq (wp_seq (qx (qbr (qz (wp_block ?_)))))))
 obtain ⟨I1, μ1, hI1, hB1⟩ := h
 refine wp_loop_st (σ := Int) (fun s a => ∃ u1 : Nat → Value, a = ⟨#[.agg d1.toArray, .agg d2.toArray, .int .u32 x1, .pointer (some ⟨b1, 0, none⟩), .pointer (some ⟨b2, 0, none⟩), undef, .pointer (some ⟨b3, 0, none⟩), .pointer (some ⟨b4, 0, none⟩), u1 8, undef, .agg (([.int .u32 1634760805, .int .u32 857760878, .int .u32 2036477234, .int .u32 1797285236] : List Value) ++ (List.replicate 12 (.int .u32 0 : Value))).toArray, .int .i64 s, u1 12, u1 13, u1 14, u1 15, u1 16, u1 17, u1 18, u1 19, u1 20, u1 21, undef, undef, undef, undef, undef, undef, undef, undef, undef, undef, undef, undef, undef, undef], []⟩) (fun s w => I1 s w) (fun s w => μ1 s w) (0) (qaa) hI1 ?_
 rintro x2 a w6 ⟨u1, rfl⟩ hI1
 have h := hB1 x2 w6 hI1
 refine wp_seq (qx (qbr (qz (wp_seq (wp_cond_split (t := (decide (x2 < 8))) (by kernel_rfl) (fun hb => ?_) (fun hb => ?_))))))
 ·replace h := h.1 (of_decide_eq_true hb)
  refine wp_skip (qz (wp_seq (wp_block (wp_seq (qx (qbr (qz (qx (qbt 4 ?_)))))))))
  obtain ⟨h1, h2, h3, h4, h⟩ := h
  refine qq (qbb (b := b1) (off := 0) (n := 32) (lo := (IntKind.i64.wrap (4 * x2))) (hi := 32) (mx := 32) rfl (.inr ⟨_, .i64, rfl, by kernel_rfl⟩) (.inl ⟨rfl, rfl⟩) (.inl ⟨rfl, rfl⟩) (by simp) Tryz.underlying22 Tryz.sizeOf5 h1 h2 h3 h4 ?_)
  intro A1 e1; replace h := h A1 e1
  refine qq (qai (args := #[.slice A1 (32 - (((IntKind.i64.wrap (4 * x2))).toNat)) (32 - (((IntKind.i64.wrap (4 * x2))).toNat))]) rfl Tryz.call116 (Ret.mono h ?_))
  clear h; rintro r1 w7 ⟨x3, rfl, h⟩
  obtain ⟨h1, h2, h⟩ := h
  refine qq (qao (k := .i64) (j := (IntKind.i64.wrap (4 + x2))) (b := b4) (off := 0) rfl Tryz.underlying176 Tryz.sizeOf23 h1 h2 ?_)
  obtain ⟨hc, hf, h⟩ := h
  refine qq (qbc (v := .int .u32 x3) rfl Tryz.sizeOf23 rfl hc hf ?_)
  intro w8 e1; replace h := h w8 e1
  refine qo (qu (qz (qx (qbr (qz ?_)))))
  exact ⟨((IntKind.i64.wrap (x2 + 1))), qaa, h.1, h.2⟩
 ·replace h := h.2 (of_decide_eq_false hb)
  refine wp_exit (qr (qr (block_exit_eq (qz (wp_seq (qx (qbt 2 ?_)))))))
  obtain ⟨hc, hf, h⟩ := h
  refine qq (qbc (v := .int .u32 x1) rfl Tryz.sizeOf23 rfl hc hf ?_)
  intro w9 e1; replace h := h w9 e1
  refine qo (qz (wp_seq (wp_seq (qx (qbr (qz (wp_block ?_)))))))
  obtain ⟨I2, μ2, hI2, hB2⟩ := h
  refine wp_loop_st (σ := Int) (fun s a => ∃ u2 : Nat → Value, a = ⟨#[.agg d1.toArray, .agg d2.toArray, .int .u32 x1, .pointer (some ⟨b1, 0, none⟩), .pointer (some ⟨b2, 0, none⟩), undef, .pointer (some ⟨b3, 0, none⟩), .pointer (some ⟨b4, 0, none⟩), u1 8, u2 9, .agg (([.int .u32 1634760805, .int .u32 857760878, .int .u32 2036477234, .int .u32 1797285236] : List Value) ++ (List.replicate 12 (.int .u32 0 : Value))).toArray, .int .i64 x2, .bool (decide (x2 < 8)), u1 13, u1 14, u1 15, u1 16, u1 17, u1 18, u1 19, u1 20, u1 21, .int .u32 x1, .pointer (some ⟨b4, 12, none⟩), .int .i64 s, u2 25, u2 26, u2 27, u2 28, u2 29, u2 30, u2 31, u2 32, u2 33, u2 34, undef], []⟩) (fun s w => I2 s w) (fun s w => μ2 s w) (0) (qaa) hI2 ?_
  rintro x4 a w10 ⟨u2, rfl⟩ hI2
  have h := hB2 x4 w10 hI2
  refine wp_seq (qx (qbr (qz (wp_seq (wp_cond_split (t := (decide (x4 < 3))) (by kernel_rfl) (fun hb => ?_) (fun hb => ?_))))))
  ·replace h := h.1 (of_decide_eq_true hb)
   refine wp_skip (qz (wp_seq (wp_block (wp_seq (qx (qbr (qz (qx (qbt 4 ?_)))))))))
   obtain ⟨h1, h2, h3, h4, h⟩ := h
   refine qq (qbb (b := b2) (off := 0) (n := 12) (lo := (IntKind.i64.wrap (4 * x4))) (hi := 12) (mx := 12) rfl (.inr ⟨_, .i64, rfl, by kernel_rfl⟩) (.inl ⟨rfl, rfl⟩) (.inl ⟨rfl, rfl⟩) (by simp) Tryz.underlying130 Tryz.sizeOf5 h1 h2 h3 h4 ?_)
   intro A2 e1; replace h := h A2 e1
   refine qq (qai (args := #[.slice A2 (12 - (((IntKind.i64.wrap (4 * x4))).toNat)) (12 - (((IntKind.i64.wrap (4 * x4))).toNat))]) rfl Tryz.call116 (Ret.mono h ?_))
   clear h; rintro r2 w11 ⟨x5, rfl, h⟩
   obtain ⟨h1, h2, h⟩ := h
   refine qq (qao (k := .i64) (j := (IntKind.i64.wrap (13 + x4))) (b := b4) (off := 0) rfl Tryz.underlying176 Tryz.sizeOf23 h1 h2 ?_)
   obtain ⟨hc, hf, h⟩ := h
   refine qq (qbc (v := .int .u32 x5) rfl Tryz.sizeOf23 rfl hc hf ?_)
   intro w12 e1; replace h := h w12 e1
   refine qo (qu (qz (qx (qbr (qz ?_)))))
   exact ⟨((IntKind.i64.wrap (x4 + 1))), qaa, h.1, h.2⟩
  ·replace h := h.2 (of_decide_eq_false hb)
   refine wp_exit (qr (qr (block_exit_eq (qz (wp_seq (qx ?_))))))
   obtain ⟨d3, hl0, hx, h⟩ := h
   refine qq (qaq (cs := d3) rfl Tryz.isAgg176 Tryz.sizeOf176 (by simp [hl0]) hx ?_)
   obtain ⟨hl, h1, hw, h⟩ := h
   refine qq (qbd (cs := d3) rfl Tryz.sizeOf176 hl h1 hw ?_)
   intro w13 e1; replace h := h w13 e1
   refine qo (qz (wp_ret ?_))
   obtain ⟨d4, hl0_0, hx0, h⟩ := h
   exact qbi (vs := [.agg d4.toArray]) (v := .agg d4.toArray) Tryz.results107 ⟨⟨b3, 0, by kernel_rfl, run_loadN Tryz.isAgg176 Tryz.sizeOf176 (by simp [hl0_0]) hx0⟩, trivial⟩ h
def S_108 (x1 x2 : Int) (x3 x4 : Int) (p1 : Option Addr) (w : World) (Q : Value → World → Prop) : Prop :=
 ∃ J1 : (Option Addr) → World → Prop, (∀ p3 w1, J1 p3 w1 →
 ∃ b1 o1, p3 = some ⟨b1, o1, none⟩ ∧
 ∀ w2, w2 = w1.drew →
 ∃ x5, w1.cell? ⟨b1, o1, none⟩ = some (.int .u32 x5) ∧
 ∃ x6, w1.cell? ⟨b1, (o1 + 1), none⟩ = some (.int .u32 x6) ∧
 ∃ x7, w1.cell? ⟨b1, (o1 + 2), none⟩ = some (.int .u32 x7) ∧
 ∃ x8, w1.cell? ⟨b1, (o1 + 3), none⟩ = some (.int .u32 x8) ∧
 ∃ b2 o2, p1 = some ⟨b2, o2, none⟩ ∧
 0 ≤ x1 ∧ x1 < 16 ∧
 (w2.cell? ⟨b2, (o2 + (x1).toNat * 1), none⟩).isSome = true ∧ w2.frozen? ⟨b2, (o2 + (x1).toNat * 1), none⟩ = false ∧
 ∀ w3, w3 = w2.setCell ⟨b2, (o2 + (x1).toNat * 1), none⟩ (.int .u32 x5) →
 KeepB [b1] w1 w3 ∧
 0 ≤ x2 ∧ x2 < 16 ∧
 (w3.cell? ⟨b2, (o2 + (x2).toNat * 1), none⟩).isSome = true ∧ w3.frozen? ⟨b2, (o2 + (x2).toNat * 1), none⟩ = false ∧
 ∀ w4, w4 = w3.setCell ⟨b2, (o2 + (x2).toNat * 1), none⟩ (.int .u32 x6) →
 KeepB [b1] w1 w4 ∧
 0 ≤ x3 ∧ x3 < 16 ∧
 (w4.cell? ⟨b2, (o2 + (x3).toNat * 1), none⟩).isSome = true ∧ w4.frozen? ⟨b2, (o2 + (x3).toNat * 1), none⟩ = false ∧
 ∀ w5, w5 = w4.setCell ⟨b2, (o2 + (x3).toNat * 1), none⟩ (.int .u32 x7) →
 KeepB [b1] w1 w5 ∧
 0 ≤ x4 ∧ x4 < 16 ∧
 (w5.cell? ⟨b2, (o2 + (x4).toNat * 1), none⟩).isSome = true ∧ w5.frozen? ⟨b2, (o2 + (x4).toNat * 1), none⟩ = false ∧
 ∀ w6, w6 = w5.setCell ⟨b2, (o2 + (x4).toNat * 1), none⟩ (.int .u32 x8) →
 Q (.tuple #[]) w6) ∧
 ∀ w7, w7 = w.drew →
 ∃ b3 o3, p1 = some ⟨b3, o3, none⟩ ∧
 0 ≤ x1 ∧ x1 < 16 ∧
 ∃ x9, w.cell? ⟨b3, (o3 + (x1).toNat * 1), none⟩ = some (.int .u32 x9) ∧
 0 ≤ x2 ∧ x2 < 16 ∧
 ∃ x10, w.cell? ⟨b3, (o3 + (x2).toNat * 1), none⟩ = some (.int .u32 x10) ∧
 0 ≤ x3 ∧ x3 < 16 ∧
 ∃ x11, w.cell? ⟨b3, (o3 + (x3).toNat * 1), none⟩ = some (.int .u32 x11) ∧
 0 ≤ x4 ∧ x4 < 16 ∧
 ∃ x12, w.cell? ⟨b3, (o3 + (x4).toNat * 1), none⟩ = some (.int .u32 x12) ∧
 ∀  wp1_0, Ext w7 wp1_0 → Fl w7.heap.size [] wp1_0 [] →
 Ret Tryz.prog 109 #[.agg #[.int .u32 x9, .int .u32 x10, .int .u32 x11, .int .u32 x12]] wp1_0 fun rr1 wq1_0 => ∃ x13 x14 x15 x16, rr1 = .agg #[.int .u32 x13, .int .u32 x14, .int .u32 x15, .int .u32 x16] ∧ KeepFl w7.heap.size wp1_0 wq1_0 ∧
 ∀ bF1_14 wz1, Ext wq1_0 wz1 → Fl w7.heap.size [(wp1_0.heap.size, wq1_0.heap.size)] wz1 [(bF1_14, 178, #[.int .u32 0, .int .u32 0, .int .u32 0, .int .u32 0])] →
 wz1.there bF1_14 0 4 ∧
 ∀ w1008, w1008 = wz1.setCells bF1_14 0 ([.int .u32 x13, .int .u32 x14, .int .u32 x15, .int .u32 x16] : List Value) →
 J1 (some ⟨bF1_14, 0, none⟩) w1008
theorem L_108 (x1 x2 : Int) (x3 x4 : Int) (p1 : Option Addr) (w : World) (Q : Value → World → Prop) (h : S_108 x1 x2 x3 x4 p1 w Q) : Ret Tryz.prog 108 #[.int .i64 x1, .int .i64 x2, .int .i64 x3, .int .i64 x4, .pointer p1] w Q := by
 unfold S_108 at h
 refine ret_of_wp Tryz.func108 rfl ?_
 obtain ⟨J1, hJ1, h⟩ := h
 refine wp_seq_join (σ := (Option Addr)) (fun s vj1 => ⟨#[.int .i64 x1, .int .i64 x2, .int .i64 x3, .int .i64 x4, .pointer p1, undef, undef, undef, undef, .pointer s, .int .i64 x1, vj1 11, vj1 12, .int .i64 x2, vj1 14, vj1 15, .int .i64 x3, vj1 17, vj1 18, .int .i64 x4, vj1 20, vj1 21, vj1 22, vj1 23, undef, undef, undef, undef, undef, undef, undef, undef, undef, undef, undef, undef, undef, undef, undef, undef], []⟩) (fun s w => J1 s w) ?_ ?_
 ·clear h; rintro p3 vj1 w1 hj
  have h := hJ1 p3 w1 hj
  obtain ⟨b1, o1, rfl, h⟩ := h
  refine qbj (KeepB [b1] w1) [19] ?_
  intro w2 e1; have hK1 := keepB_drew (B := [b1]) e1; replace h := h w2 e1
  refine qbo 0 rfl (qbz (v := .int .i64 x1)) (qbo 1 rfl (qbz (v := .int .i64 x2)) (qbo 2 rfl (qbz (v := .int .i64 x3)) (qbo 3 rfl (qbz (v := .int .i64 x4)) (qbo 4 rfl (qbz (v := .pointer (some ⟨b1, o1, none⟩))) ?_))))
  obtain ⟨x5, hx, h⟩ := h
  refine qbn 5 rfl (qbw (v := .int .u32 x5) rfl Tryz.isAgg23 (fun _ hk => keepB_cell hk (by simp) hx)) hK1 ?_
  refine qbo 6 rfl (qbz (v := .pointer (some ⟨b1, (o1 + 1), none⟩))) ?_
  obtain ⟨x6, hx, h⟩ := h
  refine qbn 7 rfl (qbw (v := .int .u32 x6) rfl Tryz.isAgg23 (fun _ hk => keepB_cell hk (by simp) hx)) hK1 ?_
  refine qbo 8 rfl (qbz (v := .pointer (some ⟨b1, (o1 + 2), none⟩))) ?_
  obtain ⟨x7, hx, h⟩ := h
  refine qbn 9 rfl (qbw (v := .int .u32 x7) rfl Tryz.isAgg23 (fun _ hk => keepB_cell hk (by simp) hx)) hK1 ?_
  refine qbo 10 rfl (qbz (v := .pointer (some ⟨b1, (o1 + 3), none⟩))) ?_
  obtain ⟨x8, hx, h⟩ := h
  refine qbn 11 rfl (qbw (v := .int .u32 x8) rfl Tryz.isAgg23 (fun _ hk => keepB_cell hk (by simp) hx)) hK1 ?_
  obtain ⟨b2, o2, rfl, h⟩ := h
  obtain ⟨h1, h2, h⟩ := h
  refine qbo 12 rfl (qbv (k := .i64) (j := x1) (b := b2) (off := o2) rfl Tryz.underlying176 Tryz.sizeOf23 h1 h2) ?_
  obtain ⟨hc, hf, h⟩ := h
  refine qbm 13 rfl (qbc (v := .int .u32 x5) rfl Tryz.sizeOf23 rfl hc hf ?_)
  intro w3 e1; replace h := h w3 e1
  obtain ⟨hK2, h⟩ := h
  refine ⟨fun _ _ => hK2, ?_⟩
  obtain ⟨h1, h2, h⟩ := h
  refine qbo 14 rfl (qbv (k := .i64) (j := x2) (b := b2) (off := o2) rfl Tryz.underlying176 Tryz.sizeOf23 h1 h2) ?_
  obtain ⟨hc, hf, h⟩ := h
  refine qbm 15 rfl (qbc (v := .int .u32 x6) rfl Tryz.sizeOf23 rfl hc hf ?_)
  intro w4 e1; replace h := h w4 e1
  obtain ⟨hK3, h⟩ := h
  refine ⟨fun _ _ => hK3, ?_⟩
  obtain ⟨h1, h2, h⟩ := h
  refine qbo 16 rfl (qbv (k := .i64) (j := x3) (b := b2) (off := o2) rfl Tryz.underlying176 Tryz.sizeOf23 h1 h2) ?_
  obtain ⟨hc, hf, h⟩ := h
  refine qbm 17 rfl (qbc (v := .int .u32 x7) rfl Tryz.sizeOf23 rfl hc hf ?_)
  intro w5 e1; replace h := h w5 e1
  obtain ⟨hK4, h⟩ := h
  refine ⟨fun _ _ => hK4, ?_⟩
  obtain ⟨h1, h2, h⟩ := h
  refine qbo 18 rfl (qbv (k := .i64) (j := x4) (b := b2) (off := o2) rfl Tryz.underlying176 Tryz.sizeOf23 h1 h2) ?_
  obtain ⟨hc, hf, h⟩ := h
  refine qbm 19 rfl (qbc (v := .int .u32 x8) rfl Tryz.sizeOf23 rfl hc hf ?_)
  intro w6 e1; replace h := h w6 e1
  refine ⟨fun hh => absurd hh (by decide), ?_⟩
  refine qbk ?_
  exact qbg (v := .tuple #[]) h
 ·clear hJ1
  refine qbj (Keep w) [13, 15] ?_
  intro w7 e1; have hK5 := keep_drew e1; replace h := h w7 e1; have hz1 : w.heap.size ≤ w7.heap.size := (by rw [e1]; exact Nat.le_refl _)
  refine qbo 0 rfl (qbz (v := .int .i64 x1)) ?_
  obtain ⟨b3, o3, rfl, h⟩ := h
  obtain ⟨h1, h2, h⟩ := h
  refine qbo 1 rfl (qbv (k := .i64) (j := x1) (b := b3) (off := o3) rfl Tryz.underlying176 Tryz.sizeOf23 h1 h2) ?_
  obtain ⟨x9, hx, h⟩ := h
  refine qbn 2 rfl (qbw (v := .int .u32 x9) rfl Tryz.isAgg23 (fun _ hk => keep_cell hk hx)) hK5 ?_
  refine qbo 3 rfl (qbz (v := .int .i64 x2)) ?_
  obtain ⟨h1, h2, h⟩ := h
  refine qbo 4 rfl (qbv (k := .i64) (j := x2) (b := b3) (off := o3) rfl Tryz.underlying176 Tryz.sizeOf23 h1 h2) ?_
  obtain ⟨x10, hx, h⟩ := h
  refine qbn 5 rfl (qbw (v := .int .u32 x10) rfl Tryz.isAgg23 (fun _ hk => keep_cell hk hx)) hK5 ?_
  refine qbo 6 rfl (qbz (v := .int .i64 x3)) ?_
  obtain ⟨h1, h2, h⟩ := h
  refine qbo 7 rfl (qbv (k := .i64) (j := x3) (b := b3) (off := o3) rfl Tryz.underlying176 Tryz.sizeOf23 h1 h2) ?_
  obtain ⟨x11, hx, h⟩ := h
  refine qbn 8 rfl (qbw (v := .int .u32 x11) rfl Tryz.isAgg23 (fun _ hk => keep_cell hk hx)) hK5 ?_
  refine qbo 9 rfl (qbz (v := .int .i64 x4)) ?_
  obtain ⟨h1, h2, h⟩ := h
  refine qbo 10 rfl (qbv (k := .i64) (j := x4) (b := b3) (off := o3) rfl Tryz.underlying176 Tryz.sizeOf23 h1 h2) ?_
  obtain ⟨x12, hx, h⟩ := h
  refine qbn 11 rfl (qbw (v := .int .u32 x12) rfl Tryz.isAgg23 (fun _ hk => keep_cell hk hx)) hK5 ?_
  refine qbo 12 rfl (qbz (v := .agg #[.int .u32 x9, .int .u32 x10, .int .u32 x11, .int .u32 x12])) ?_
  have hE1_0 : Ext w7 w7 := Mod.refl _ _; have hF1_0 := Fl.nil w7
  refine qbq 13 14 rfl rfl ?_ ?_
  ·
   replace h := h  w7 hE1_0 (hF1_0.sub (by simp [Value.cells]))
   refine (qai (args := #[.agg #[.int .u32 x9, .int .u32 x10, .int .u32 x11, .int .u32 x12]]) rfl Tryz.call109 (Ret.mono h ?_))
   clear h; rintro r1 wq1_0 ⟨x13, x14, x15, x16, rfl, hkf, h⟩
   have hE1_1 : Ext wq1_0 wq1_0 := Mod.refl _ _; have hF1_1 := hF1_0.call hkf; have hz1_1 : w.heap.size ≤ wq1_0.heap.size := (by have := hkf.1; omega)
   refine ⟨fun hh => absurd hh (by decide), ?_⟩
   refine qbm 14 rfl ((qac rfl Tryz.zeroValue178 ?_))
   intro bF1_14 wz1 e1 e2
   have hA := (Mod.refl (fun _ => False) wq1_0).alloc e2
   have hE1_2 := hE1_1.trans hA; have hF1_2 := hF1_1.alloc (cs := #[.int .u32 0, .int .u32 0, .int .u32 0, .int .u32 0]) (t := 178) e1 e2; have hz1_2 : w.heap.size ≤ wz1.heap.size := (by have := hA.size; omega)
   refine ⟨fun _ hk => Keep.of_ext hk hz1_1 hA, ?_⟩
   replace h := h bF1_14 wz1 hE1_2 (hF1_2.sub (by simp [Value.cells]))
   obtain ⟨hw, h⟩ := h
   refine qbm 15 rfl (qbd (cs := ([.int .u32 x13, .int .u32 x14, .int .u32 x15, .int .u32 x16] : List Value)) rfl Tryz.sizeOf178 rfl (qab) hw ?_)
   intro w1008 e1; replace h := h w1008 e1
   refine ⟨fun hh => absurd hh (by decide), ?_⟩
   refine qbk (qz ?_)
   exact ⟨((some ⟨bF1_14, 0, none⟩)), h, qaa⟩
  ·
   refine (qac rfl Tryz.zeroValue178 ?_)
   intro bF1_14 w1009 e1 e2
   have hA := (Mod.refl (fun _ => False) w7).alloc e2
   have hE1_1003 := hE1_0.trans hA; have hF1_1003 := hF1_0.alloc (cs := #[.int .u32 0, .int .u32 0, .int .u32 0, .int .u32 0]) (t := 178) e1 e2; have hz1_1003 : w.heap.size ≤ w1009.heap.size := (by have := hA.size; omega)
   refine ⟨fun _ hk => Keep.of_ext hk hz1 hA, ?_⟩
   refine qbm 13 rfl ?_
   replace h := h  w1009 hE1_1003 (hF1_1003.sub (by simp [Value.cells]))
   refine (qai (args := #[.agg #[.int .u32 x9, .int .u32 x10, .int .u32 x11, .int .u32 x12]]) rfl Tryz.call109 (Ret.mono h ?_))
   clear h; rintro r1002 wz1 ⟨x13, x14, x15, x16, rfl, hkf, h⟩
   have hE1_1004 : Ext wz1 wz1 := Mod.refl _ _; have hF1_1004 := hF1_1003.call hkf; have hz1_1004 : w.heap.size ≤ wz1.heap.size := (by have := hkf.1; omega)
   refine ⟨fun hh => absurd hh (by decide), ?_⟩
   replace h := h bF1_14 wz1 hE1_1004 (hF1_1004.sub (by simp [Value.cells]))
   obtain ⟨hw, h⟩ := h
   refine qbm 15 rfl (qbd (cs := ([.int .u32 x13, .int .u32 x14, .int .u32 x15, .int .u32 x16] : List Value)) rfl Tryz.sizeOf178 rfl (qab) hw ?_)
   intro w1008 e1; replace h := h w1008 e1
   refine ⟨fun hh => absurd hh (by decide), ?_⟩
   refine qbk (qz ?_)
   exact ⟨((some ⟨bF1_14, 0, none⟩)), h, qaa⟩
def S_109 (x1 x2 : Int) (x3 x4 : Int) (w : World) (Q : Value → World → Prop) : Prop :=
 ∀ b1 w1, b1 = w.heap.size → w1 = w.alloc (.cells #[.int .u32 x1, .int .u32 x2, .int .u32 x3, .int .u32 x4] 178) →
 ∀ b2 w2, b2 = w1.heap.size → w2 = w1.alloc (.cells #[.int .u32 0, .int .u32 0, .int .u32 0, .int .u32 0] 178) →
 Ret Tryz.prog 117 #[.int .i64 0, .int .i64 1, .int .i64 3, .int .i64 16, .pointer (some ⟨b1, 0, none⟩)] w2 fun r1 w3 => r1 = .tuple #[] ∧
 Ret Tryz.prog 117 #[.int .i64 2, .int .i64 3, .int .i64 1, .int .i64 12, .pointer (some ⟨b1, 0, none⟩)] w3 fun r2 w4 => r2 = .tuple #[] ∧
 Ret Tryz.prog 117 #[.int .i64 0, .int .i64 1, .int .i64 3, .int .i64 8, .pointer (some ⟨b1, 0, none⟩)] w4 fun r3 w5 => r3 = .tuple #[] ∧
 Ret Tryz.prog 117 #[.int .i64 2, .int .i64 3, .int .i64 1, .int .i64 7, .pointer (some ⟨b1, 0, none⟩)] w5 fun r4 w6 => r4 = .tuple #[] ∧
 ∃ x5 x6 x7 x8, w6.rangeAt b1 0 ([.int .u32 x5, .int .u32 x6, .int .u32 x7, .int .u32 x8] : List Value) ∧
 w6.there b2 0 4 ∧
 ∀ w7, w7 = w6.setCells b2 0 ([.int .u32 x5, .int .u32 x6, .int .u32 x7, .int .u32 x8] : List Value) →
 ∃ x9 x10 x11 x12, w7.rangeAt b2 0 ([.int .u32 x9, .int .u32 x10, .int .u32 x11, .int .u32 x12] : List Value) ∧ Q (.agg #[.int .u32 x9, .int .u32 x10, .int .u32 x11, .int .u32 x12]) w7
theorem L_109 (x1 x2 : Int) (x3 x4 : Int) (w : World) (Q : Value → World → Prop) (h : S_109 x1 x2 x3 x4 w Q) : Ret Tryz.prog 109 #[.agg #[.int .u32 x1, .int .u32 x2, .int .u32 x3, .int .u32 x4]] w Q := by
 unfold S_109 at h
 refine ret_of_wp Tryz.func109 rfl (wp_seq (qx (qq (qaf (v := .agg #[.int .u32 x1, .int .u32 x2, .int .u32 x3, .int .u32 x4]) rfl ?_))))
 intro b1 w1 e1 e2; replace h := h b1 w1 e1 e2
 refine qq (qac rfl Tryz.zeroValue178 ?_)
 intro b2 w2 e1 e2; replace h := h b2 w2 e1 e2
 refine qo (qz (wp_seq (qx (qbr (qz (wp_seq (qx (qbt 1 (qq (qak (args := #[.int .i64 0, .int .i64 1, .int .i64 3, .int .i64 16, .pointer (some ⟨b1, 0, none⟩)]) (cap := #[.pointer (some ⟨b1, 0, none⟩)]) rfl Tryz.call117 (Ret.mono h ?_)))))))))))
 clear h; rintro r1 w3 ⟨rfl, h⟩
 refine qo (qz (wp_seq (qx (qbt 1 (qq (qak (args := #[.int .i64 2, .int .i64 3, .int .i64 1, .int .i64 12, .pointer (some ⟨b1, 0, none⟩)]) (cap := #[.pointer (some ⟨b1, 0, none⟩)]) rfl Tryz.call117 (Ret.mono h ?_)))))))
 clear h; rintro r2 w4 ⟨rfl, h⟩
 refine qo (qz (wp_seq (qx (qbt 1 (qq (qak (args := #[.int .i64 0, .int .i64 1, .int .i64 3, .int .i64 8, .pointer (some ⟨b1, 0, none⟩)]) (cap := #[.pointer (some ⟨b1, 0, none⟩)]) rfl Tryz.call117 (Ret.mono h ?_)))))))
 clear h; rintro r3 w5 ⟨rfl, h⟩
 refine qo (qz (wp_seq (qx (qbt 1 (qq (qak (args := #[.int .i64 2, .int .i64 3, .int .i64 1, .int .i64 7, .pointer (some ⟨b1, 0, none⟩)]) (cap := #[.pointer (some ⟨b1, 0, none⟩)]) rfl Tryz.call117 (Ret.mono h ?_)))))))
 clear h; rintro r4 w6 ⟨rfl, h⟩
 refine qo (qz (wp_seq (qx ?_)))
 obtain ⟨x5, x6, x7, x8, hx, h⟩ := h
 refine qq (qaq (cs := ([.int .u32 x5, .int .u32 x6, .int .u32 x7, .int .u32 x8] : List Value)) rfl Tryz.isAgg178 Tryz.sizeOf178 (by simp []) hx ?_)
 obtain ⟨hw, h⟩ := h
 refine qq (qbd (cs := ([.int .u32 x5, .int .u32 x6, .int .u32 x7, .int .u32 x8] : List Value)) rfl Tryz.sizeOf178 rfl (qab) hw ?_)
 intro w7 e1; replace h := h w7 e1
 refine qo (qz (wp_ret ?_))
 obtain ⟨x9, x10, x11, x12, hx0, h⟩ := h
 exact qbi (vs := [.agg #[.int .u32 x9, .int .u32 x10, .int .u32 x11, .int .u32 x12]]) (v := .agg #[.int .u32 x9, .int .u32 x10, .int .u32 x11, .int .u32 x12]) Tryz.results109 ⟨⟨b2, 0, by kernel_rfl, run_loadN Tryz.isAgg178 Tryz.sizeOf178 (by simp []) hx0⟩, trivial⟩ h
def S_112 (A1 : Option Addr) (n1 c1 : Nat) (w : World) (Q : Value → World → Prop) : Prop :=
 ∀ w1, w1 = w.drew →
 ∃ b1 o1, A1 = some ⟨b1, o1, none⟩ ∧ (0 : Int) ≤ 0 ∧ 0 < (n1 : Int) ∧
 ∃ x1, w.cell? ⟨b1, (o1 + 0 * 1), none⟩ = some (.int .u8 x1) ∧
 (0 : Int) ≤ 1 ∧ 1 < (n1 : Int) ∧
 ∃ x2, w.cell? ⟨b1, (o1 + 1 * 1), none⟩ = some (.int .u8 x2) ∧
 (0 : Int) ≤ 2 ∧ 2 < (n1 : Int) ∧
 ∃ x3, w.cell? ⟨b1, (o1 + 2 * 1), none⟩ = some (.int .u8 x3) ∧
 (0 : Int) ≤ 3 ∧ 3 < (n1 : Int) ∧
 ∃ x4, w.cell? ⟨b1, (o1 + 3 * 1), none⟩ = some (.int .u8 x4) ∧
 Q (.int .u32 (IntKind.u32.wrap ((IntKind.u32.wrap ((IntKind.u32.wrap ((IntKind.u32.wrap x1) + (IntKind.u32.wrap (256 * (IntKind.u32.wrap x2))))) + (IntKind.u32.wrap (65536 * (IntKind.u32.wrap x3))))) + (IntKind.u32.wrap (16777216 * (IntKind.u32.wrap x4)))))) w1
theorem L_112 (A1 : Option Addr) (n1 c1 : Nat) (w : World) (Q : Value → World → Prop) (h : S_112 A1 n1 c1 w Q) : Ret Tryz.prog 112 #[.slice A1 n1 c1] w Q := by
 unfold S_112 at h
 refine ret_of_wp Tryz.func112 rfl (wp_seq (qx (qbr (qz (wp_seq (qbj (Keep w) [] ?_))))))
 intro w1 e1; have hK1 := keep_drew e1; replace h := h w1 e1
 refine qbo 0 rfl (qbz (v := .slice A1 n1 c1)) ?_
 obtain ⟨b1, o1, rfl, h⟩ := h
 obtain ⟨h1, h2, h⟩ := h
 refine qbo 1 rfl (qbu (k := .i64) (j := 0) (b := b1) (off := o1) (n := n1) (c := c1) rfl Tryz.underlying62 Tryz.sizeOf5 h1 h2) ?_
 obtain ⟨x1, hx, h⟩ := h
 refine qbn 2 rfl (qbw (v := .int .u8 x1) rfl Tryz.isAgg5 (fun _ hk => keep_cell hk hx)) hK1 ?_
 refine qbo 3 rfl (qbz (v := .int .u32 (IntKind.u32.wrap x1))) (qbo 4 rfl (qbz (v := .slice (some ⟨b1, o1, none⟩) n1 c1)) ?_)
 obtain ⟨h1, h2, h⟩ := h
 refine qbo 5 rfl (qbu (k := .i64) (j := 1) (b := b1) (off := o1) (n := n1) (c := c1) rfl Tryz.underlying62 Tryz.sizeOf5 h1 h2) ?_
 obtain ⟨x2, hx, h⟩ := h
 refine qbn 6 rfl (qbw (v := .int .u8 x2) rfl Tryz.isAgg5 (fun _ hk => keep_cell hk hx)) hK1 ?_
 refine qbo 7 rfl (qbz (v := .int .u32 (IntKind.u32.wrap x2))) (qbo 8 rfl (qbz (v := .int .u32 (IntKind.u32.wrap (256 * (IntKind.u32.wrap x2))))) (qbo 9 rfl (qbz (v := .int .u32 (IntKind.u32.wrap ((IntKind.u32.wrap x1) + (IntKind.u32.wrap (256 * (IntKind.u32.wrap x2))))))) (qbo 10 rfl (qbz (v := .slice (some ⟨b1, o1, none⟩) n1 c1)) ?_)))
 obtain ⟨h1, h2, h⟩ := h
 refine qbo 11 rfl (qbu (k := .i64) (j := 2) (b := b1) (off := o1) (n := n1) (c := c1) rfl Tryz.underlying62 Tryz.sizeOf5 h1 h2) ?_
 obtain ⟨x3, hx, h⟩ := h
 refine qbn 12 rfl (qbw (v := .int .u8 x3) rfl Tryz.isAgg5 (fun _ hk => keep_cell hk hx)) hK1 ?_
 refine qbo 13 rfl (qbz (v := .int .u32 (IntKind.u32.wrap x3))) (qbo 14 rfl (qbz (v := .int .u32 (IntKind.u32.wrap (65536 * (IntKind.u32.wrap x3))))) (qbo 15 rfl (qbz (v := .int .u32 (IntKind.u32.wrap ((IntKind.u32.wrap ((IntKind.u32.wrap x1) + (IntKind.u32.wrap (256 * (IntKind.u32.wrap x2))))) + (IntKind.u32.wrap (65536 * (IntKind.u32.wrap x3))))))) (qbo 16 rfl (qbz (v := .slice (some ⟨b1, o1, none⟩) n1 c1)) ?_)))
 obtain ⟨h1, h2, h⟩ := h
 refine qbo 17 rfl (qbu (k := .i64) (j := 3) (b := b1) (off := o1) (n := n1) (c := c1) rfl Tryz.underlying62 Tryz.sizeOf5 h1 h2) ?_
 obtain ⟨x4, hx, h⟩ := h
 refine qbn 18 rfl (qbw (v := .int .u8 x4) rfl Tryz.isAgg5 (fun _ hk => keep_cell hk hx)) hK1 ?_
 refine qbo 19 rfl (qbz (v := .int .u32 (IntKind.u32.wrap x4))) (qbo 20 rfl (qbz (v := .int .u32 (IntKind.u32.wrap (16777216 * (IntKind.u32.wrap x4))))) (qbo 21 rfl (qbz (v := .int .u32 (IntKind.u32.wrap ((IntKind.u32.wrap ((IntKind.u32.wrap ((IntKind.u32.wrap x1) + (IntKind.u32.wrap (256 * (IntKind.u32.wrap x2))))) + (IntKind.u32.wrap (65536 * (IntKind.u32.wrap x3))))) + (IntKind.u32.wrap (16777216 * (IntKind.u32.wrap x4))))))) (qbo 22 rfl (qbz (v := .int .u32 (IntKind.u32.wrap ((IntKind.u32.wrap ((IntKind.u32.wrap ((IntKind.u32.wrap x1) + (IntKind.u32.wrap (256 * (IntKind.u32.wrap x2))))) + (IntKind.u32.wrap (65536 * (IntKind.u32.wrap x3))))) + (IntKind.u32.wrap (16777216 * (IntKind.u32.wrap x4))))))) (qbk (qz (wp_ret ?_))))))
 exact qbh (v := .int .u32 (IntKind.u32.wrap ((IntKind.u32.wrap ((IntKind.u32.wrap ((IntKind.u32.wrap x1) + (IntKind.u32.wrap (256 * (IntKind.u32.wrap x2))))) + (IntKind.u32.wrap (65536 * (IntKind.u32.wrap x3))))) + (IntKind.u32.wrap (16777216 * (IntKind.u32.wrap x4)))))) h
def S_113  (w : World) (Q : Value → World → Prop) : Prop :=
 ∀ b1 w1, b1 = w.heap.size → w1 = w.alloc (.cells #[.int .i64 0, .int .i64 4, .int .i64 8, .int .i64 12] 3) →
 ∀ b2 w2, b2 = w1.heap.size → w2 = w1.alloc (.cells #[.int .i64 1, .int .i64 5, .int .i64 9, .int .i64 13] 3) →
 ∀ b3 w3, b3 = w2.heap.size → w3 = w2.alloc (.cells #[.int .i64 2, .int .i64 6, .int .i64 10, .int .i64 14] 3) →
 ∀ b4 w4, b4 = w3.heap.size → w4 = w3.alloc (.cells #[.int .i64 3, .int .i64 7, .int .i64 11, .int .i64 15] 3) →
 ∀ b5 w5, b5 = w4.heap.size → w5 = w4.alloc (.cells #[.int .i64 0, .int .i64 5, .int .i64 10, .int .i64 15] 3) →
 ∀ b6 w6, b6 = w5.heap.size → w6 = w5.alloc (.cells #[.int .i64 1, .int .i64 6, .int .i64 11, .int .i64 12] 3) →
 ∀ b7 w7, b7 = w6.heap.size → w7 = w6.alloc (.cells #[.int .i64 2, .int .i64 7, .int .i64 8, .int .i64 13] 3) →
 ∀ b8 w8, b8 = w7.heap.size → w8 = w7.alloc (.cells #[.int .i64 3, .int .i64 4, .int .i64 9, .int .i64 14] 3) →
 ∀ b9 w9, b9 = w8.heap.size → w9 = w8.alloc (.cells #[.slice (some ⟨b1, 0, none⟩) 4 4, .slice (some ⟨b2, 0, none⟩) 4 4, .slice (some ⟨b3, 0, none⟩) 4 4, .slice (some ⟨b4, 0, none⟩) 4 4, .slice (some ⟨b5, 0, none⟩) 4 4, .slice (some ⟨b6, 0, none⟩) 4 4, .slice (some ⟨b7, 0, none⟩) 4 4, .slice (some ⟨b8, 0, none⟩) 4 4] 30) →
 Q (.slice (some ⟨b9, 0, none⟩) 8 8) w9
theorem L_113  (w : World) (Q : Value → World → Prop) (h : S_113  w Q) : Ret Tryz.prog 113 #[] w Q := by
 unfold S_113 at h
 refine ret_of_wp Tryz.func113 rfl (wp_seq (qx (qbr (qz (wp_seq (qx (qq (qag (cs := ([.int .i64 0, .int .i64 4, .int .i64 8, .int .i64 12] : List Value)) rfl Tryz.underlying30 Tryz.sizeOf3 Tryz.zeroValue3 (by kernel_rfl) (by decide) (by decide) ?_))))))))
 intro b1 w1 e1 e2; replace h := h b1 w1 e1 e2
 refine qq (qag (cs := ([.int .i64 1, .int .i64 5, .int .i64 9, .int .i64 13] : List Value)) rfl Tryz.underlying30 Tryz.sizeOf3 Tryz.zeroValue3 (by kernel_rfl) (by decide) (by decide) ?_)
 intro b2 w2 e1 e2; replace h := h b2 w2 e1 e2
 refine qq (qag (cs := ([.int .i64 2, .int .i64 6, .int .i64 10, .int .i64 14] : List Value)) rfl Tryz.underlying30 Tryz.sizeOf3 Tryz.zeroValue3 (by kernel_rfl) (by decide) (by decide) ?_)
 intro b3 w3 e1 e2; replace h := h b3 w3 e1 e2
 refine qq (qag (cs := ([.int .i64 3, .int .i64 7, .int .i64 11, .int .i64 15] : List Value)) rfl Tryz.underlying30 Tryz.sizeOf3 Tryz.zeroValue3 (by kernel_rfl) (by decide) (by decide) ?_)
 intro b4 w4 e1 e2; replace h := h b4 w4 e1 e2
 refine qq (qag (cs := ([.int .i64 0, .int .i64 5, .int .i64 10, .int .i64 15] : List Value)) rfl Tryz.underlying30 Tryz.sizeOf3 Tryz.zeroValue3 (by kernel_rfl) (by decide) (by decide) ?_)
 intro b5 w5 e1 e2; replace h := h b5 w5 e1 e2
 refine qq (qag (cs := ([.int .i64 1, .int .i64 6, .int .i64 11, .int .i64 12] : List Value)) rfl Tryz.underlying30 Tryz.sizeOf3 Tryz.zeroValue3 (by kernel_rfl) (by decide) (by decide) ?_)
 intro b6 w6 e1 e2; replace h := h b6 w6 e1 e2
 refine qq (qag (cs := ([.int .i64 2, .int .i64 7, .int .i64 8, .int .i64 13] : List Value)) rfl Tryz.underlying30 Tryz.sizeOf3 Tryz.zeroValue3 (by kernel_rfl) (by decide) (by decide) ?_)
 intro b7 w7 e1 e2; replace h := h b7 w7 e1 e2
 refine qq (qag (cs := ([.int .i64 3, .int .i64 4, .int .i64 9, .int .i64 14] : List Value)) rfl Tryz.underlying30 Tryz.sizeOf3 Tryz.zeroValue3 (by kernel_rfl) (by decide) (by decide) ?_)
 intro b8 w8 e1 e2; replace h := h b8 w8 e1 e2
 refine qq (qag (cs := ([.slice (some ⟨b1, 0, none⟩) 4 4, .slice (some ⟨b2, 0, none⟩) 4 4, .slice (some ⟨b3, 0, none⟩) 4 4, .slice (some ⟨b4, 0, none⟩) 4 4, .slice (some ⟨b5, 0, none⟩) 4 4, .slice (some ⟨b6, 0, none⟩) 4 4, .slice (some ⟨b7, 0, none⟩) 4 4, .slice (some ⟨b8, 0, none⟩) 4 4] : List Value)) rfl Tryz.underlying184 Tryz.sizeOf30 Tryz.zeroValue30 (by kernel_rfl) (by decide) (by decide) ?_)
 intro b9 w9 e1 e2; replace h := h b9 w9 e1 e2
 refine qbr (qz (wp_ret ?_))
 exact qbh (v := .slice (some ⟨b9, 0, none⟩) 8 8) h
def S_114 (x1 x2 : Int) (x3 x4 : Int) (w : World) (Q : Value → World → Prop) : Prop :=
 ∀ b1 w1, b1 = w.heap.size → w1 = w.alloc (.cells #[.int .u32 x1, .int .u32 x2, .int .u32 x3, .int .u32 x4] 178) →
 ∀ b2 w2, b2 = w1.heap.size → w2 = w1.alloc (.cells #[.int .u32 0, .int .u32 0, .int .u32 0, .int .u32 0] 178) →
 ∀ w3, w3 = w2.drew →
 ∃ x5, w2.cell? ⟨b1, 0, none⟩ = some (.int .u32 x5) ∧
 ∃ x6, w2.cell? ⟨b1, 1, none⟩ = some (.int .u32 x6) ∧
 ∃ x7, w2.cell? ⟨b1, 2, none⟩ = some (.int .u32 x7) ∧
 ∃ x8, w2.cell? ⟨b1, 3, none⟩ = some (.int .u32 x8) ∧
 Ret Tryz.prog 122 #[.int .u32 (bXor .u32 x8 (IntKind.u32.wrap (x5 + x6))), .int .i64 16] w3 fun r1 w4 => ∃ x9, r1 = .int .u32 x9 ∧
 Ret Tryz.prog 122 #[.int .u32 (bXor .u32 x6 (IntKind.u32.wrap (x7 + x9))), .int .i64 12] w4 fun r2 w5 => ∃ x10, r2 = .int .u32 x10 ∧
 Ret Tryz.prog 122 #[.int .u32 (bXor .u32 x9 (IntKind.u32.wrap ((IntKind.u32.wrap (x5 + x6)) + x10))), .int .i64 8] w5 fun r3 w6 => ∃ x11, r3 = .int .u32 x11 ∧
 Ret Tryz.prog 122 #[.int .u32 (bXor .u32 x10 (IntKind.u32.wrap ((IntKind.u32.wrap (x7 + x9)) + x11))), .int .i64 7] w6 fun r4 w7 => ∃ x12, r4 = .int .u32 x12 ∧
 w7.there b2 0 4 ∧
 ∀ w8, w8 = w7.setCells b2 0 ([.int .u32 (IntKind.u32.wrap ((IntKind.u32.wrap (x5 + x6)) + x10)), .int .u32 x12, .int .u32 (IntKind.u32.wrap ((IntKind.u32.wrap (x7 + x9)) + x11)), .int .u32 x11] : List Value) →
 ∃ x13 x14 x15 x16, w8.rangeAt b2 0 ([.int .u32 x13, .int .u32 x14, .int .u32 x15, .int .u32 x16] : List Value) ∧ Q (.agg #[.int .u32 x13, .int .u32 x14, .int .u32 x15, .int .u32 x16]) w8
theorem L_114 (x1 x2 : Int) (x3 x4 : Int) (w : World) (Q : Value → World → Prop) (h : S_114 x1 x2 x3 x4 w Q) : Ret Tryz.prog 114 #[.agg #[.int .u32 x1, .int .u32 x2, .int .u32 x3, .int .u32 x4]] w Q := by
 unfold S_114 at h
 refine ret_of_wp Tryz.func114 rfl (wp_seq (qx (qq (qaf (v := .agg #[.int .u32 x1, .int .u32 x2, .int .u32 x3, .int .u32 x4]) rfl ?_))))
 intro b1 w1 e1 e2; replace h := h b1 w1 e1 e2
 refine qq (qac rfl Tryz.zeroValue178 ?_)
 intro b2 w2 e1 e2; replace h := h b2 w2 e1 e2
 refine qo (qz (wp_seq (qbj (Keep w2) [] ?_)))
 intro w3 e1; have hK1 := keep_drew e1; replace h := h w3 e1
 refine qbo 0 rfl (qbz (v := .pointer (some ⟨b1, 0, none⟩))) ?_
 obtain ⟨x5, hx, h⟩ := h
 refine qbn 1 rfl (qbw (v := .int .u32 x5) rfl Tryz.isAgg23 (fun _ hk => keep_cell hk hx)) hK1 ?_
 refine qbo 2 rfl (qbz (v := .pointer (some ⟨b1, 1, none⟩))) ?_
 obtain ⟨x6, hx, h⟩ := h
 refine qbn 3 rfl (qbw (v := .int .u32 x6) rfl Tryz.isAgg23 (fun _ hk => keep_cell hk hx)) hK1 ?_
 refine qbo 4 rfl (qbz (v := .pointer (some ⟨b1, 2, none⟩))) ?_
 obtain ⟨x7, hx, h⟩ := h
 refine qbn 5 rfl (qbw (v := .int .u32 x7) rfl Tryz.isAgg23 (fun _ hk => keep_cell hk hx)) hK1 ?_
 refine qbo 6 rfl (qbz (v := .pointer (some ⟨b1, 3, none⟩))) ?_
 obtain ⟨x8, hx, h⟩ := h
 refine qbn 7 rfl (qbw (v := .int .u32 x8) rfl Tryz.isAgg23 (fun _ hk => keep_cell hk hx)) hK1 ?_
 refine qbo 8 rfl (qbz (v := .int .u32 x5)) (qbo 9 rfl (qbz (v := .int .u32 x6)) (qbo 10 rfl (qbz (v := .int .u32 x7)) (qbo 11 rfl (qbz (v := .int .u32 x8)) (qbk (qz (wp_seq (qx (qbr (qz (wp_seq (qx (qbt 3 (qq (qai (args := #[.int .u32 (bXor .u32 x8 (IntKind.u32.wrap (x5 + x6))), .int .i64 16]) rfl Tryz.call122 (Ret.mono h ?_)))))))))))))))
 clear h; rintro r1 w4 ⟨x9, rfl, h⟩
 refine qbr (qz (wp_seq (qx (qbr (qz (wp_seq (qx (qbt 3 (qq (qai (args := #[.int .u32 (bXor .u32 x6 (IntKind.u32.wrap (x7 + x9))), .int .i64 12]) rfl Tryz.call122 (Ret.mono h ?_)))))))))))
 clear h; rintro r2 w5 ⟨x10, rfl, h⟩
 refine qbr (qz (wp_seq (qx (qbr (qz (wp_seq (qx (qbt 3 (qq (qai (args := #[.int .u32 (bXor .u32 x9 (IntKind.u32.wrap ((IntKind.u32.wrap (x5 + x6)) + x10))), .int .i64 8]) rfl Tryz.call122 (Ret.mono h ?_)))))))))))
 clear h; rintro r3 w6 ⟨x11, rfl, h⟩
 refine qbr (qz (wp_seq (qx (qbr (qz (wp_seq (qx (qbt 3 (qq (qai (args := #[.int .u32 (bXor .u32 x10 (IntKind.u32.wrap ((IntKind.u32.wrap (x7 + x9)) + x11))), .int .i64 7]) rfl Tryz.call122 (Ret.mono h ?_)))))))))))
 clear h; rintro r4 w7 ⟨x12, rfl, h⟩
 refine qbr (qz (wp_seq (qx (qbt 5 ?_))))
 obtain ⟨hw, h⟩ := h
 refine qq (qbd (cs := ([.int .u32 (IntKind.u32.wrap ((IntKind.u32.wrap (x5 + x6)) + x10)), .int .u32 x12, .int .u32 (IntKind.u32.wrap ((IntKind.u32.wrap (x7 + x9)) + x11)), .int .u32 x11] : List Value)) rfl Tryz.sizeOf178 rfl (qab) hw ?_)
 intro w8 e1; replace h := h w8 e1
 refine qo (qz (wp_ret ?_))
 obtain ⟨x13, x14, x15, x16, hx0, h⟩ := h
 exact qbi (vs := [.agg #[.int .u32 x13, .int .u32 x14, .int .u32 x15, .int .u32 x16]]) (v := .agg #[.int .u32 x13, .int .u32 x14, .int .u32 x15, .int .u32 x16]) Tryz.results114 ⟨⟨b2, 0, by kernel_rfl, run_loadN Tryz.isAgg178 Tryz.sizeOf178 (by simp []) hx0⟩, trivial⟩ h
def S_116 (A1 : Option Addr) (n1 c1 : Nat) (w : World) (Q : Value → World → Prop) : Prop :=
 ∀ w1, w1 = w.drew →
 ∃ b1 o1, A1 = some ⟨b1, o1, none⟩ ∧ (0 : Int) ≤ 0 ∧ 0 < (n1 : Int) ∧
 ∃ x1, w.cell? ⟨b1, (o1 + 0 * 1), none⟩ = some (.int .u8 x1) ∧
 (0 : Int) ≤ 1 ∧ 1 < (n1 : Int) ∧
 ∃ x2, w.cell? ⟨b1, (o1 + 1 * 1), none⟩ = some (.int .u8 x2) ∧
 (0 : Int) ≤ 2 ∧ 2 < (n1 : Int) ∧
 ∃ x3, w.cell? ⟨b1, (o1 + 2 * 1), none⟩ = some (.int .u8 x3) ∧
 (0 : Int) ≤ 3 ∧ 3 < (n1 : Int) ∧
 ∃ x4, w.cell? ⟨b1, (o1 + 3 * 1), none⟩ = some (.int .u8 x4) ∧
 Q (.int .u32 (bOr .u32 (bOr .u32 (bOr .u32 (IntKind.u32.wrap x1) (IntKind.u32.wrap ((IntKind.u32.wrap x2) * 2 ^ 8))) (IntKind.u32.wrap ((IntKind.u32.wrap x3) * 2 ^ 16))) (IntKind.u32.wrap ((IntKind.u32.wrap x4) * 2 ^ 24)))) w1
theorem L_116 (A1 : Option Addr) (n1 c1 : Nat) (w : World) (Q : Value → World → Prop) (h : S_116 A1 n1 c1 w Q) : Ret Tryz.prog 116 #[.slice A1 n1 c1] w Q := by
 unfold S_116 at h
 refine ret_of_wp Tryz.func116 rfl (wp_seq (qx (qbr (qz (wp_seq (qbj (Keep w) [] ?_))))))
 intro w1 e1; have hK1 := keep_drew e1; replace h := h w1 e1
 refine qbo 0 rfl (qbz (v := .slice A1 n1 c1)) ?_
 obtain ⟨b1, o1, rfl, h⟩ := h
 obtain ⟨h1, h2, h⟩ := h
 refine qbo 1 rfl (qbu (k := .i64) (j := 0) (b := b1) (off := o1) (n := n1) (c := c1) rfl Tryz.underlying62 Tryz.sizeOf5 h1 h2) ?_
 obtain ⟨x1, hx, h⟩ := h
 refine qbn 2 rfl (qbw (v := .int .u8 x1) rfl Tryz.isAgg5 (fun _ hk => keep_cell hk hx)) hK1 ?_
 refine qbo 3 rfl (qbz (v := .int .u32 (IntKind.u32.wrap x1))) (qbo 4 rfl (qbz (v := .slice (some ⟨b1, o1, none⟩) n1 c1)) ?_)
 obtain ⟨h1, h2, h⟩ := h
 refine qbo 5 rfl (qbu (k := .i64) (j := 1) (b := b1) (off := o1) (n := n1) (c := c1) rfl Tryz.underlying62 Tryz.sizeOf5 h1 h2) ?_
 obtain ⟨x2, hx, h⟩ := h
 refine qbn 6 rfl (qbw (v := .int .u8 x2) rfl Tryz.isAgg5 (fun _ hk => keep_cell hk hx)) hK1 ?_
 refine qbo 7 rfl (qbz (v := .int .u32 (IntKind.u32.wrap x2))) (qbo 8 rfl (qbz (v := .int .u32 (IntKind.u32.wrap ((IntKind.u32.wrap x2) * 2 ^ 8)))) (qbo 9 rfl (qbz (v := .int .u32 (bOr .u32 (IntKind.u32.wrap x1) (IntKind.u32.wrap ((IntKind.u32.wrap x2) * 2 ^ 8))))) (qbo 10 rfl (qbz (v := .slice (some ⟨b1, o1, none⟩) n1 c1)) ?_)))
 obtain ⟨h1, h2, h⟩ := h
 refine qbo 11 rfl (qbu (k := .i64) (j := 2) (b := b1) (off := o1) (n := n1) (c := c1) rfl Tryz.underlying62 Tryz.sizeOf5 h1 h2) ?_
 obtain ⟨x3, hx, h⟩ := h
 refine qbn 12 rfl (qbw (v := .int .u8 x3) rfl Tryz.isAgg5 (fun _ hk => keep_cell hk hx)) hK1 ?_
 refine qbo 13 rfl (qbz (v := .int .u32 (IntKind.u32.wrap x3))) (qbo 14 rfl (qbz (v := .int .u32 (IntKind.u32.wrap ((IntKind.u32.wrap x3) * 2 ^ 16)))) (qbo 15 rfl (qbz (v := .int .u32 (bOr .u32 (bOr .u32 (IntKind.u32.wrap x1) (IntKind.u32.wrap ((IntKind.u32.wrap x2) * 2 ^ 8))) (IntKind.u32.wrap ((IntKind.u32.wrap x3) * 2 ^ 16))))) (qbo 16 rfl (qbz (v := .slice (some ⟨b1, o1, none⟩) n1 c1)) ?_)))
 obtain ⟨h1, h2, h⟩ := h
 refine qbo 17 rfl (qbu (k := .i64) (j := 3) (b := b1) (off := o1) (n := n1) (c := c1) rfl Tryz.underlying62 Tryz.sizeOf5 h1 h2) ?_
 obtain ⟨x4, hx, h⟩ := h
 refine qbn 18 rfl (qbw (v := .int .u8 x4) rfl Tryz.isAgg5 (fun _ hk => keep_cell hk hx)) hK1 ?_
 refine qbo 19 rfl (qbz (v := .int .u32 (IntKind.u32.wrap x4))) (qbo 20 rfl (qbz (v := .int .u32 (IntKind.u32.wrap ((IntKind.u32.wrap x4) * 2 ^ 24)))) (qbo 21 rfl (qbz (v := .int .u32 (bOr .u32 (bOr .u32 (bOr .u32 (IntKind.u32.wrap x1) (IntKind.u32.wrap ((IntKind.u32.wrap x2) * 2 ^ 8))) (IntKind.u32.wrap ((IntKind.u32.wrap x3) * 2 ^ 16))) (IntKind.u32.wrap ((IntKind.u32.wrap x4) * 2 ^ 24))))) (qbo 22 rfl (qbz (v := .int .u32 (bOr .u32 (bOr .u32 (bOr .u32 (IntKind.u32.wrap x1) (IntKind.u32.wrap ((IntKind.u32.wrap x2) * 2 ^ 8))) (IntKind.u32.wrap ((IntKind.u32.wrap x3) * 2 ^ 16))) (IntKind.u32.wrap ((IntKind.u32.wrap x4) * 2 ^ 24))))) (qbk (qz (wp_ret ?_))))))
 exact qbh (v := .int .u32 (bOr .u32 (bOr .u32 (bOr .u32 (IntKind.u32.wrap x1) (IntKind.u32.wrap ((IntKind.u32.wrap x2) * 2 ^ 8))) (IntKind.u32.wrap ((IntKind.u32.wrap x3) * 2 ^ 16))) (IntKind.u32.wrap ((IntKind.u32.wrap x4) * 2 ^ 24)))) h
def S_117 (x1 x2 : Int) (x3 x4 : Int) (p1 : Option Addr) (w : World) (Q : Value → World → Prop) : Prop :=
 ∀ w1, w1 = w.drew →
 ∃ b1 o1, p1 = some ⟨b1, o1, none⟩ ∧
 0 ≤ x1 ∧ x1 < 4 ∧
 ∃ x5, w.cell? ⟨b1, (o1 + (x1).toNat * 1), none⟩ = some (.int .u32 x5) ∧
 0 ≤ x2 ∧ x2 < 4 ∧
 ∃ x6, w.cell? ⟨b1, (o1 + (x2).toNat * 1), none⟩ = some (.int .u32 x6) ∧
 0 ≤ x1 ∧ x1 < 4 ∧
 (w1.cell? ⟨b1, (o1 + (x1).toNat * 1), none⟩).isSome = true ∧ w1.frozen? ⟨b1, (o1 + (x1).toNat * 1), none⟩ = false ∧
 ∀ w2, w2 = w1.setCell ⟨b1, (o1 + (x1).toNat * 1), none⟩ (.int .u32 (IntKind.u32.wrap (x5 + x6))) →
 ∀ w3, w3 = w2.drew →
 0 ≤ x3 ∧ x3 < 4 ∧
 ∃ x7, w2.cell? ⟨b1, (o1 + (x3).toNat * 1), none⟩ = some (.int .u32 x7) ∧
 0 ≤ x1 ∧ x1 < 4 ∧
 ∃ x8, w2.cell? ⟨b1, (o1 + (x1).toNat * 1), none⟩ = some (.int .u32 x8) ∧
 Ret Tryz.prog 118 #[.int .u32 (bXor .u32 x7 x8), .int .i64 x4] w3 fun r1 w4 => ∃ x9, r1 = .int .u32 x9 ∧
 0 ≤ x3 ∧ x3 < 4 ∧
 (w4.cell? ⟨b1, (o1 + (x3).toNat * 1), none⟩).isSome = true ∧ w4.frozen? ⟨b1, (o1 + (x3).toNat * 1), none⟩ = false ∧
 ∀ w5, w5 = w4.setCell ⟨b1, (o1 + (x3).toNat * 1), none⟩ (.int .u32 x9) →
 Q (.tuple #[]) w5
theorem L_117 (x1 x2 : Int) (x3 x4 : Int) (p1 : Option Addr) (w : World) (Q : Value → World → Prop) (h : S_117 x1 x2 x3 x4 p1 w Q) : Ret Tryz.prog 117 #[.int .i64 x1, .int .i64 x2, .int .i64 x3, .int .i64 x4, .pointer p1] w Q := by
 unfold S_117 at h
 refine ret_of_wp Tryz.func117 rfl (wp_seq (qbj (Keep w) [8] ?_))
 intro w1 e1; have hK1 := keep_drew e1; replace h := h w1 e1
 refine qbo 0 rfl (qbz (v := .int .i64 x1)) ?_
 obtain ⟨b1, o1, rfl, h⟩ := h
 obtain ⟨h1, h2, h⟩ := h
 refine qbo 1 rfl (qbv (k := .i64) (j := x1) (b := b1) (off := o1) rfl Tryz.underlying178 Tryz.sizeOf23 h1 h2) ?_
 obtain ⟨x5, hx, h⟩ := h
 refine qbn 2 rfl (qbw (v := .int .u32 x5) rfl Tryz.isAgg23 (fun _ hk => keep_cell hk hx)) hK1 ?_
 refine qbo 3 rfl (qbz (v := .int .i64 x2)) ?_
 obtain ⟨h1, h2, h⟩ := h
 refine qbo 4 rfl (qbv (k := .i64) (j := x2) (b := b1) (off := o1) rfl Tryz.underlying178 Tryz.sizeOf23 h1 h2) ?_
 obtain ⟨x6, hx, h⟩ := h
 refine qbn 5 rfl (qbw (v := .int .u32 x6) rfl Tryz.isAgg23 (fun _ hk => keep_cell hk hx)) hK1 ?_
 refine qbo 6 rfl (qbz (v := .int .u32 (IntKind.u32.wrap (x5 + x6)))) ?_
 obtain ⟨h1, h2, h⟩ := h
 refine qbo 7 rfl (qbv (k := .i64) (j := x1) (b := b1) (off := o1) rfl Tryz.underlying178 Tryz.sizeOf23 h1 h2) ?_
 obtain ⟨hc, hf, h⟩ := h
 refine qbm 8 rfl (qbc (v := .int .u32 (IntKind.u32.wrap (x5 + x6))) rfl Tryz.sizeOf23 rfl hc hf ?_)
 intro w2 e1; replace h := h w2 e1
 refine ⟨fun hh => absurd hh (by decide), ?_⟩
 refine qbk (qz (qbj (Keep w2) [9, 11] ?_))
 intro w3 e1; have hK2 := keep_drew e1; replace h := h w3 e1
 refine qbo 0 rfl (qbz (v := .int .i64 x3)) (qbo 1 rfl (qbz (v := .int .i64 x3)) ?_)
 obtain ⟨h1, h2, h⟩ := h
 refine qbo 2 rfl (qbv (k := .i64) (j := x3) (b := b1) (off := o1) rfl Tryz.underlying178 Tryz.sizeOf23 h1 h2) ?_
 obtain ⟨x7, hx, h⟩ := h
 refine qbn 3 rfl (qbw (v := .int .u32 x7) rfl Tryz.isAgg23 (fun _ hk => keep_cell hk hx)) hK2 ?_
 refine qbo 4 rfl (qbz (v := .int .i64 x1)) ?_
 obtain ⟨h1, h2, h⟩ := h
 refine qbo 5 rfl (qbv (k := .i64) (j := x1) (b := b1) (off := o1) rfl Tryz.underlying178 Tryz.sizeOf23 h1 h2) ?_
 obtain ⟨x8, hx, h⟩ := h
 refine qbn 6 rfl (qbw (v := .int .u32 x8) rfl Tryz.isAgg23 (fun _ hk => keep_cell hk hx)) hK2 ?_
 refine qbo 7 rfl (qbz (v := .int .u32 (bXor .u32 x7 x8))) (qbo 8 rfl (qbz (v := .int .i64 x4)) (qbm 9 rfl (qai (args := #[.int .u32 (bXor .u32 x7 x8), .int .i64 x4]) rfl Tryz.call118 (Ret.mono h ?_))))
 clear h; rintro r1 w4 ⟨x9, rfl, h⟩
 refine ⟨fun hh => absurd hh (by decide), ?_⟩
 obtain ⟨h1, h2, h⟩ := h
 refine qbo 10 rfl (qbv (k := .i64) (j := x3) (b := b1) (off := o1) rfl Tryz.underlying178 Tryz.sizeOf23 h1 h2) ?_
 obtain ⟨hc, hf, h⟩ := h
 refine qbm 11 rfl (qbc (v := .int .u32 x9) rfl Tryz.sizeOf23 rfl hc hf ?_)
 intro w5 e1; replace h := h w5 e1
 refine ⟨fun hh => absurd hh (by decide), ?_⟩
 refine qbk ?_
 exact qbg (v := .tuple #[]) h
def S_122 (x1 x2 : Int) (w : World) (Q : Value → World → Prop) : Prop :=
 ∃ (I1 : Int → Int → World → Prop) (μ1 : Int → Int → World → Nat), I1 x1 0 w ∧
 ∀ x3 x4 w1, I1 x3 x4 w1 →
 (x4 < x2 →
 I1 (IntKind.u32.wrap ((IntKind.u32.wrap (x3 * 2)) + (IntKind.u32.wrap (x3.tdiv 2147483648)))) (IntKind.i64.wrap (x4 + 1)) w1 ∧ μ1 (IntKind.u32.wrap ((IntKind.u32.wrap (x3 * 2)) + (IntKind.u32.wrap (x3.tdiv 2147483648)))) (IntKind.i64.wrap (x4 + 1)) w1 < μ1 x3 x4 w1) ∧
 (¬ x4 < x2 →
 Q (.int .u32 x3) w1)
theorem L_122 (x1 x2 : Int) (w : World) (Q : Value → World → Prop) (h : S_122 x1 x2 w Q) : Ret Tryz.prog 122 #[.int .u32 x1, .int .i64 x2] w Q := by
 unfold S_122 at h
 refine ret_of_wp Tryz.func122 rfl (wp_seq (qx (qbr (qz (wp_seq (wp_seq (qx (qbr (qz (wp_block ?_))))))))))
 obtain ⟨I1, μ1, hI1, hB1⟩ := h
 refine wp_loop_st (σ := Int × Int) (fun s a => ∃ u1 : Nat → Value, a = ⟨#[.int .u32 s.1, .int .i64 x2, undef, undef, .int .u32 0, .int .i64 s.2, u1 6, u1 7, u1 8, u1 9, u1 10, u1 11, u1 12, u1 13, u1 14, u1 15, undef], []⟩) (fun s w => I1 s.1 s.2 w) (fun s w => μ1 s.1 s.2 w) (x1, 0) (qaa) hI1 ?_
 rintro ⟨x3, x4⟩ a w1 ⟨u1, rfl⟩ hI1
 have h := hB1 x3 x4 w1 hI1
 refine wp_seq (wp_seq (qx (qbr (qz (wp_cond_split (t := (decide (x4 < x2))) (by kernel_rfl) (fun hb => ?_) (fun hb => ?_))))))
 ·replace h := h.1 (of_decide_eq_true hb)
  refine wp_skip (qz (wp_seq (wp_block (qx (qbr (qu (qz (qx (qbr (qz ?_))))))))))
  exact ⟨((IntKind.u32.wrap ((IntKind.u32.wrap (x3 * 2)) + (IntKind.u32.wrap (x3.tdiv 2147483648)))), (IntKind.i64.wrap (x4 + 1))), qaa, h.1, h.2⟩
 ·replace h := h.2 (of_decide_eq_false hb)
  refine wp_exit (qr (qr (block_exit_eq (qz (wp_seq (qx (qbr (qz (wp_ret ?_)))))))))
  exact qbh (v := .int .u32 x3) h
def S_34 (A1 : Option Addr) (n1 c1 : Nat) (A2 : Option Addr) (n2 c2 : Nat) (w : World) (Q : Value → World → Prop) : Prop :=
 ((n1 : Int) ≠ (n2 : Int) →
 Q (.bool false) w) ∧
 ((n1 : Int) = (n2 : Int) →
 ∃ (I1 : Int → World → Prop) (μ1 : Int → World → Nat), I1 0 w ∧
 ∀ x1 w1, I1 x1 w1 →
 (x1 < (n1 : Int) →
 ∀ w2, w2 = w1.drew →
 ∃ b1 o1, A1 = some ⟨b1, o1, none⟩ ∧ (0 : Int) ≤ x1 ∧ x1 < (n1 : Int) ∧
 ∃ x2, w1.cell? ⟨b1, (o1 + (x1).toNat * 1), none⟩ = some (.int .u8 x2) ∧
 ∃ b2 o2, A2 = some ⟨b2, o2, none⟩ ∧ (0 : Int) ≤ x1 ∧ x1 < (n2 : Int) ∧
 ∃ x3, w1.cell? ⟨b2, (o2 + (x1).toNat * 1), none⟩ = some (.int .u8 x3) ∧
 (x2 ≠ x3 →
 Q (.bool false) w2) ∧
 (x2 = x3 →
 I1 (IntKind.i64.wrap (x1 + 1)) w2 ∧ μ1 (IntKind.i64.wrap (x1 + 1)) w2 < μ1 x1 w1)) ∧
 (¬ x1 < (n1 : Int) →
 Q (.bool true) w1))
theorem L_34 (A1 : Option Addr) (n1 c1 : Nat) (A2 : Option Addr) (n2 c2 : Nat) (w : World) (Q : Value → World → Prop) (h : S_34 A1 n1 c1 A2 n2 c2 w Q) : Ret Tryz.prog 34 #[.slice A1 n1 c1, .slice A2 n2 c2] w Q := by
 unfold S_34 at h
 refine ret_of_wp Tryz.func34 rfl (wp_seq (qx (qbr (qz (wp_seq (wp_seq (qx (qbr (qz (wp_cond_split (t := ((n1 : Int) != (n2 : Int))) (by kernel_rfl) (fun hb => ?_) (fun hb => ?_)))))))))))
 ·replace h := h.1 (bne_iff_ne.1 hb)
  refine wp_seq (qx (qbr (qz (wp_ret (qs ?_)))))
  exact qbh (v := .bool false) h
 ·replace h := h.2 (bne_false hb)
  refine wp_skip (qz (wp_seq (wp_seq (qx (qbr (qz (wp_block ?_)))))))
  obtain ⟨I1, μ1, hI1, hB1⟩ := h
  refine wp_loop_st (σ := Int) (fun s a => ∃ u1 : Nat → Value, a = ⟨#[.slice A1 n1 c1, .slice A2 n2 c2, undef, undef, u1 4, .int .i64 s, .slice A1 n1 c1, .int .i64 (n1 : Int), .slice A2 n2 c2, .int .i64 (n2 : Int), .bool ((n1 : Int) != (n2 : Int)), u1 11, u1 12, u1 13, u1 14, u1 15, u1 16, u1 17, u1 18, u1 19, u1 20, u1 21, u1 22, u1 23, u1 24, u1 25], []⟩) (fun s w => I1 s w) (fun s w => μ1 s w) (0) (qaa) hI1 ?_
  rintro x1 a w1 ⟨u1, rfl⟩ hI1
  have h := hB1 x1 w1 hI1
  refine wp_seq (wp_seq (qx (qbr (qz (wp_cond_split (t := (decide (x1 < (n1 : Int)))) (by kernel_rfl) (fun hb => ?_) (fun hb => ?_))))))
  ·replace h := h.1 (of_decide_eq_true hb)
   refine wp_skip (qz (wp_seq (wp_block (wp_seq (qbj (Keep w1) [] ?_)))))
   intro w2 e1; have hK1 := keep_drew e1; replace h := h w2 e1
   refine qbo 0 rfl (qbz (v := .slice A1 n1 c1)) (qbo 1 rfl (qbz (v := .int .i64 x1)) ?_)
   obtain ⟨b1, o1, rfl, h⟩ := h
   obtain ⟨h1, h2, h⟩ := h
   refine qbo 2 rfl (qbu (k := .i64) (j := x1) (b := b1) (off := o1) (n := n1) (c := c1) rfl Tryz.underlying62 Tryz.sizeOf5 h1 h2) ?_
   obtain ⟨x2, hx, h⟩ := h
   refine qbn 3 rfl (qbw (v := .int .u8 x2) rfl Tryz.isAgg5 (fun _ hk => keep_cell hk hx)) hK1 ?_
   refine qbo 4 rfl (qbz (v := .slice A2 n2 c2)) (qbo 5 rfl (qbz (v := .int .i64 x1)) ?_)
   obtain ⟨b2, o2, rfl, h⟩ := h
   obtain ⟨h1, h2, h⟩ := h
   refine qbo 6 rfl (qbu (k := .i64) (j := x1) (b := b2) (off := o2) (n := n2) (c := c2) rfl Tryz.underlying62 Tryz.sizeOf5 h1 h2) ?_
   obtain ⟨x3, hx, h⟩ := h
   refine qbn 7 rfl (qbw (v := .int .u8 x3) rfl Tryz.isAgg5 (fun _ hk => keep_cell hk hx)) hK1 ?_
   refine qbo 8 rfl (qbz (v := .bool (x2 != x3))) (qbk (qz (wp_cond_split (t := (x2 != x3)) (by kernel_rfl) (fun hb => ?_) (fun hb => ?_))))
   ·replace h := h.1 (bne_iff_ne.1 hb)
    refine wp_seq (qx (qbr (qz (wp_ret (block_ret (qs (qs (block_ret (qs ?_)))))))))
    exact qbh (v := .bool false) h
   ·replace h := h.2 (bne_false hb)
    refine wp_skip (qu (qz (qx (qbr (qz ?_)))))
    exact ⟨((IntKind.i64.wrap (x1 + 1))), qaa, h.1, h.2⟩
  ·replace h := h.2 (of_decide_eq_false hb)
   refine wp_exit (qr (qr (block_exit_eq (qz (wp_seq (qx (qbr (qz (wp_ret ?_)))))))))
   exact qbh (v := .bool true) h
def S_63 (A1 : Option Addr) (n1 c1 : Nat) (x1 x2 : Int) (w : World) (Q : Value → World → Prop) : Prop :=
 Ret Tryz.prog 64 #[.slice A1 n1 c1] w fun r1 w1 => ∃ A2 n2 c2, r1 = .slice A2 n2 c2 ∧
 Ret Tryz.prog 78 #[.int .i64 x2] w1 fun r2 w2 => ∃ x3, r2 = .int .i64 x3 ∧
 ∃ J1 : Int → (Option Addr) → Nat → Nat → World → Prop, (∀ x5 A4 n4 c4 w3, J1 x5 A4 n4 c4 w3 →
 ∀ b1 w4, b1 = w3.heap.size → w4 = w3.alloc (.cells #[.int .u8 (IntKind.u8.wrap x5)] 5) →
 ∃ l1 l2 : List Value, (n4 + 1) * 1 ≤ 140737488355328 ∧ l1.length = n4 * 1 ∧ RdS w4 A4 l1 ∧ l2.length = 1 * 1 ∧ RdS w4 (some ⟨b1, 0, none⟩) l2 ∧ One l2 ∧ (n4 + 1 ≤ c4 → Room w4 A4 (n4 * 1) (1 * 1)) ∧
 ∀ A5 c5 w5, Appended w4 5 1 #[.int .u8 0] A4 n4 c4 1 l1 l2 A5 c5 w5 →
 ∀ b2 w6, b2 = w5.heap.size → w6 = w5.alloc (.cells #[.int .u8 (IntKind.u8.wrap (Int.fdiv x5 (2 ^ 8)))] 5) →
 ∃ l3 l4 : List Value, ((n4 + 1) + 1) * 1 ≤ 140737488355328 ∧ l3.length = (n4 + 1) * 1 ∧ RdS w6 A5 l3 ∧ l4.length = 1 * 1 ∧ RdS w6 (some ⟨b2, 0, none⟩) l4 ∧ One l4 ∧ ((n4 + 1) + 1 ≤ c5 → Room w6 A5 ((n4 + 1) * 1) (1 * 1)) ∧
 ∀ A6 c6 w7, Appended w6 5 1 #[.int .u8 0] A5 (n4 + 1) c5 1 l3 l4 A6 c6 w7 →
 Q (.slice A6 ((n4 + 1) + 1) c6) w7) ∧
 ∃ J2 : Int → (Option Addr) → Nat → Nat → World → Prop, (∀ x7 A8 n6 c8 w8, J2 x7 A8 n6 c8 w8 →
 ∀ b3 w9, b3 = w8.heap.size → w9 = w8.alloc (.cells #[.int .u8 (IntKind.u8.wrap x7)] 5) →
 ∃ l5 l6 : List Value, (n6 + 1) * 1 ≤ 140737488355328 ∧ l5.length = n6 * 1 ∧ RdS w9 A8 l5 ∧ l6.length = 1 * 1 ∧ RdS w9 (some ⟨b3, 0, none⟩) l6 ∧ One l6 ∧ (n6 + 1 ≤ c8 → Room w9 A8 (n6 * 1) (1 * 1)) ∧
 ∀ A9 c9 w10, Appended w9 5 1 #[.int .u8 0] A8 n6 c8 1 l5 l6 A9 c9 w10 →
 ∀ b4 w11, b4 = w10.heap.size → w11 = w10.alloc (.cells #[.int .u8 (IntKind.u8.wrap (Int.fdiv x7 (2 ^ 8)))] 5) →
 ∃ l7 l8 : List Value, ((n6 + 1) + 1) * 1 ≤ 140737488355328 ∧ l7.length = (n6 + 1) * 1 ∧ RdS w11 A9 l7 ∧ l8.length = 1 * 1 ∧ RdS w11 (some ⟨b4, 0, none⟩) l8 ∧ One l8 ∧ ((n6 + 1) + 1 ≤ c9 → Room w11 A9 ((n6 + 1) * 1) (1 * 1)) ∧
 ∀ A10 c10 w12, Appended w11 5 1 #[.int .u8 0] A9 (n6 + 1) c9 1 l7 l8 A10 c10 w12 →
 J1 (Int.fdiv (Int.fdiv x7 (2 ^ 8)) (2 ^ 8)) A10 ((n6 + 1) + 1) c10 w12) ∧
 ∃ J3 : Int → (Option Addr) → Nat → Nat → World → Prop, (∀ x9 A12 n8 c12 w13, J3 x9 A12 n8 c12 w13 →
 ∀ b5 w14, b5 = w13.heap.size → w14 = w13.alloc (.cells #[.int .u8 (IntKind.u8.wrap x9)] 5) →
 ∃ l9 l10 : List Value, (n8 + 1) * 1 ≤ 140737488355328 ∧ l9.length = n8 * 1 ∧ RdS w14 A12 l9 ∧ l10.length = 1 * 1 ∧ RdS w14 (some ⟨b5, 0, none⟩) l10 ∧ One l10 ∧ (n8 + 1 ≤ c12 → Room w14 A12 (n8 * 1) (1 * 1)) ∧
 ∀ A13 c13 w15, Appended w14 5 1 #[.int .u8 0] A12 n8 c12 1 l9 l10 A13 c13 w15 →
 ∀ b6 w16, b6 = w15.heap.size → w16 = w15.alloc (.cells #[.int .u8 (IntKind.u8.wrap (Int.fdiv x9 (2 ^ 8)))] 5) →
 ∃ l11 l12 : List Value, ((n8 + 1) + 1) * 1 ≤ 140737488355328 ∧ l11.length = (n8 + 1) * 1 ∧ RdS w16 A13 l11 ∧ l12.length = 1 * 1 ∧ RdS w16 (some ⟨b6, 0, none⟩) l12 ∧ One l12 ∧ ((n8 + 1) + 1 ≤ c13 → Room w16 A13 ((n8 + 1) * 1) (1 * 1)) ∧
 ∀ A14 c14 w17, Appended w16 5 1 #[.int .u8 0] A13 (n8 + 1) c13 1 l11 l12 A14 c14 w17 →
 J2 (Int.fdiv (Int.fdiv x9 (2 ^ 8)) (2 ^ 8)) A14 ((n8 + 1) + 1) c14 w17) ∧
 (x3 = 8 →
 ∀ b7 w18, b7 = w2.heap.size → w18 = w2.alloc (.cells #[.int .u8 (IntKind.u8.wrap x1)] 5) →
 ∃ l13 l14 : List Value, (n2 + 1) * 1 ≤ 140737488355328 ∧ l13.length = n2 * 1 ∧ RdS w18 A2 l13 ∧ l14.length = 1 * 1 ∧ RdS w18 (some ⟨b7, 0, none⟩) l14 ∧ One l14 ∧ (n2 + 1 ≤ c2 → Room w18 A2 (n2 * 1) (1 * 1)) ∧
 ∀ A15 c15 w19, Appended w18 5 1 #[.int .u8 0] A2 n2 c2 1 l13 l14 A15 c15 w19 →
 ∀ b8 w20, b8 = w19.heap.size → w20 = w19.alloc (.cells #[.int .u8 (IntKind.u8.wrap (Int.fdiv x1 (2 ^ 8)))] 5) →
 ∃ l15 l16 : List Value, ((n2 + 1) + 1) * 1 ≤ 140737488355328 ∧ l15.length = (n2 + 1) * 1 ∧ RdS w20 A15 l15 ∧ l16.length = 1 * 1 ∧ RdS w20 (some ⟨b8, 0, none⟩) l16 ∧ One l16 ∧ ((n2 + 1) + 1 ≤ c15 → Room w20 A15 ((n2 + 1) * 1) (1 * 1)) ∧
 ∀ A16 c16 w21, Appended w20 5 1 #[.int .u8 0] A15 (n2 + 1) c15 1 l15 l16 A16 c16 w21 →
 J3 (Int.fdiv (Int.fdiv x1 (2 ^ 8)) (2 ^ 8)) A16 ((n2 + 1) + 1) c16 w21) ∧
 (x3 ≠ 8 →
 (x3 = 7 →
 ∀ b9 w22, b9 = w2.heap.size → w22 = w2.alloc (.cells #[.int .u8 (IntKind.u8.wrap x1)] 5) →
 ∃ l17 l18 : List Value, (n2 + 1) * 1 ≤ 140737488355328 ∧ l17.length = n2 * 1 ∧ RdS w22 A2 l17 ∧ l18.length = 1 * 1 ∧ RdS w22 (some ⟨b9, 0, none⟩) l18 ∧ One l18 ∧ (n2 + 1 ≤ c2 → Room w22 A2 (n2 * 1) (1 * 1)) ∧
 ∀ A17 c17 w23, Appended w22 5 1 #[.int .u8 0] A2 n2 c2 1 l17 l18 A17 c17 w23 →
 J3 (Int.fdiv x1 (2 ^ 8)) A17 (n2 + 1) c17 w23) ∧
 (x3 ≠ 7 →
 (x3 = 6 →
 J3 x1 A2 n2 c2 w2) ∧
 (x3 ≠ 6 →
 (x3 = 5 →
 ∀ b10 w24, b10 = w2.heap.size → w24 = w2.alloc (.cells #[.int .u8 (IntKind.u8.wrap x1)] 5) →
 ∃ l19 l20 : List Value, (n2 + 1) * 1 ≤ 140737488355328 ∧ l19.length = n2 * 1 ∧ RdS w24 A2 l19 ∧ l20.length = 1 * 1 ∧ RdS w24 (some ⟨b10, 0, none⟩) l20 ∧ One l20 ∧ (n2 + 1 ≤ c2 → Room w24 A2 (n2 * 1) (1 * 1)) ∧
 ∀ A18 c18 w25, Appended w24 5 1 #[.int .u8 0] A2 n2 c2 1 l19 l20 A18 c18 w25 →
 J2 (Int.fdiv x1 (2 ^ 8)) A18 (n2 + 1) c18 w25) ∧
 (x3 ≠ 5 →
 (x3 = 4 →
 J2 x1 A2 n2 c2 w2) ∧
 (x3 ≠ 4 →
 (x3 = 3 →
 ∀ b11 w26, b11 = w2.heap.size → w26 = w2.alloc (.cells #[.int .u8 (IntKind.u8.wrap x1)] 5) →
 ∃ l21 l22 : List Value, (n2 + 1) * 1 ≤ 140737488355328 ∧ l21.length = n2 * 1 ∧ RdS w26 A2 l21 ∧ l22.length = 1 * 1 ∧ RdS w26 (some ⟨b11, 0, none⟩) l22 ∧ One l22 ∧ (n2 + 1 ≤ c2 → Room w26 A2 (n2 * 1) (1 * 1)) ∧
 ∀ A19 c19 w27, Appended w26 5 1 #[.int .u8 0] A2 n2 c2 1 l21 l22 A19 c19 w27 →
 J1 (Int.fdiv x1 (2 ^ 8)) A19 (n2 + 1) c19 w27) ∧
 (x3 ≠ 3 →
 (x3 = 2 →
 J1 x1 A2 n2 c2 w2) ∧
 (x3 ≠ 2 →
 ∀ b12 w28, b12 = w2.heap.size → w28 = w2.alloc (.cells #[.int .u8 (IntKind.u8.wrap x1)] 5) →
 ∃ l23 l24 : List Value, (n2 + 1) * 1 ≤ 140737488355328 ∧ l23.length = n2 * 1 ∧ RdS w28 A2 l23 ∧ l24.length = 1 * 1 ∧ RdS w28 (some ⟨b12, 0, none⟩) l24 ∧ One l24 ∧ (n2 + 1 ≤ c2 → Room w28 A2 (n2 * 1) (1 * 1)) ∧
 ∀ A20 c20 w29, Appended w28 5 1 #[.int .u8 0] A2 n2 c2 1 l23 l24 A20 c20 w29 →
 Q (.slice A20 (n2 + 1) c20) w29)))))))
theorem L_63 (A1 : Option Addr) (n1 c1 : Nat) (x1 x2 : Int) (w : World) (Q : Value → World → Prop) (h : S_63 A1 n1 c1 x1 x2 w Q) : Ret Tryz.prog 63 #[.slice A1 n1 c1, .int .u64 x1, .int .i64 x2] w Q := by
 unfold S_63 at h
 refine ret_of_wp Tryz.func63 rfl (wp_seq (qx (qbr (qz (wp_seq (qx (qbt 1 (qq (qai (args := #[.slice A1 n1 c1]) rfl Tryz.call64 (Ret.mono h ?_))))))))))
 clear h; rintro r1 w1 ⟨A2, n2, c2, rfl, h⟩
 refine qbr (qz (wp_seq (wp_seq (qx (qbt 1 (qq (qai (args := #[.int .i64 x2]) rfl Tryz.call78 (Ret.mono h ?_))))))))
 clear h; rintro r2 w2 ⟨x3, rfl, h⟩
 refine qo (qz (wp_block (wp_seq (wp_block ?_))))
 obtain ⟨J1, hJ1, h⟩ := h
 refine wp_seq_join (σ := Int × (Option Addr) × Nat × Nat) (fun s vj1 => ⟨#[.slice A1 n1 c1, .int .u64 s.1, .int .i64 x2, undef, undef, undef, .slice none 0 0, .slice s.2.1 s.2.2.1 s.2.2.2, .slice A1 n1 c1, .slice A2 n2 c2, .int .i64 x2, .int .i64 x3, .bool (x3 == 8), .bool (x3 == 8), vj1 14, vj1 15, vj1 16, vj1 17, vj1 18, vj1 19, vj1 20, vj1 21, vj1 22, vj1 23, vj1 24, vj1 25, vj1 26, vj1 27, vj1 28, vj1 29, vj1 30, vj1 31, vj1 32, vj1 33, vj1 34, vj1 35, vj1 36, vj1 37, vj1 38, vj1 39, vj1 40, vj1 41, vj1 42, vj1 43, vj1 44, vj1 45, vj1 46, vj1 47, vj1 48, vj1 49, vj1 50, vj1 51, vj1 52, vj1 53, vj1 54, vj1 55, vj1 56, vj1 57, vj1 58, vj1 59, vj1 60, vj1 61, vj1 62, vj1 63, vj1 64, vj1 65, vj1 66, vj1 67, undef, undef, undef, undef, undef, undef, undef, undef, undef, undef, undef, undef, undef], []⟩) (fun s w => J1 s.1 s.2.1 s.2.2.1 s.2.2.2 w) ?_ ?_
 ·clear h; rintro ⟨x5, A4, n4, c4⟩ vj1 w3 hj
  have h := hJ1 x5 A4 n4 c4 w3 hj
  refine wp_seq (qx (qbt 3 (qq (qag (cs := ([.int .u8 (IntKind.u8.wrap x5)] : List Value)) rfl Tryz.underlying62 Tryz.sizeOf5 Tryz.zeroValue5 (by kernel_rfl) (by decide) (by decide) ?_))))
  intro b1 w4 e1 e2; replace h := h b1 w4 e1 e2
  obtain ⟨l1, l2, h1, h2, h3, h4, h5, h6, h7, h⟩ := h
  refine qq (qad (A := A4) (n := n4) (c := c4) (B := (some ⟨b1, 0, none⟩)) (m := 1) (c2 := 1) (olds := l1) (news := l2) rfl Tryz.underlying62 Tryz.underlying62 Tryz.typeInfo5 rfl (by decide) h1 h2 h3 h4 h5 h6 h7 ?_)
  intro A5 c5 w5 e1; replace h := h A5 c5 w5 e1
  refine qbr (qz (qx (qbr (qu (qz (wp_seq (qx (qbt 3 (qq (qag (cs := ([.int .u8 (IntKind.u8.wrap (Int.fdiv x5 (2 ^ 8)))] : List Value)) rfl Tryz.underlying62 Tryz.sizeOf5 Tryz.zeroValue5 (by kernel_rfl) (by decide) (by decide) ?_))))))))))
  intro b2 w6 e1 e2; replace h := h b2 w6 e1 e2
  obtain ⟨l3, l4, h1, h2, h3, h4, h5, h6, h7, h⟩ := h
  refine qq (qad (A := A5) (n := (n4 + 1)) (c := c5) (B := (some ⟨b2, 0, none⟩)) (m := 1) (c2 := 1) (olds := l3) (news := l4) rfl Tryz.underlying62 Tryz.underlying62 Tryz.typeInfo5 rfl (by decide) h1 h2 h3 h4 h5 h6 h7 ?_)
  intro A6 c6 w7 e1; replace h := h A6 c6 w7 e1
  refine qbr (qz (wp_exit (block_exit_eq (qz (wp_seq (qx (qbr (qz (wp_ret ?_)))))))))
  exact qbh (v := .slice A6 ((n4 + 1) + 1) c6) h
 ·clear hJ1
  refine wp_block (wp_seq (wp_block ?_))
  obtain ⟨J2, hJ2, h⟩ := h
  refine wp_seq_join (σ := Int × (Option Addr) × Nat × Nat) (fun s vj2 => ⟨#[.slice A1 n1 c1, .int .u64 s.1, .int .i64 x2, undef, undef, undef, .slice none 0 0, .slice s.2.1 s.2.2.1 s.2.2.2, .slice A1 n1 c1, .slice A2 n2 c2, .int .i64 x2, .int .i64 x3, .bool (x3 == 8), .bool (x3 == 8), vj2 14, vj2 15, vj2 16, vj2 17, vj2 18, vj2 19, vj2 20, vj2 21, undef, undef, undef, undef, vj2 26, vj2 27, vj2 28, vj2 29, vj2 30, vj2 31, vj2 32, vj2 33, vj2 34, vj2 35, vj2 36, vj2 37, vj2 38, vj2 39, vj2 40, vj2 41, vj2 42, vj2 43, vj2 44, vj2 45, vj2 46, vj2 47, vj2 48, vj2 49, vj2 50, vj2 51, vj2 52, vj2 53, undef, undef, undef, undef, undef, undef, undef, undef, undef, undef, undef, undef, undef, undef, undef, undef, undef, undef, undef, undef, undef, undef, undef, undef, undef, undef, undef], []⟩) (fun s w => J2 s.1 s.2.1 s.2.2.1 s.2.2.2 w) ?_ ?_
  ·clear h; rintro ⟨x7, A8, n6, c8⟩ vj2 w8 hj
   have h := hJ2 x7 A8 n6 c8 w8 hj
   refine wp_seq (qx (qbt 3 (qq (qag (cs := ([.int .u8 (IntKind.u8.wrap x7)] : List Value)) rfl Tryz.underlying62 Tryz.sizeOf5 Tryz.zeroValue5 (by kernel_rfl) (by decide) (by decide) ?_))))
   intro b3 w9 e1 e2; replace h := h b3 w9 e1 e2
   obtain ⟨l5, l6, h1, h2, h3, h4, h5, h6, h7, h⟩ := h
   refine qq (qad (A := A8) (n := n6) (c := c8) (B := (some ⟨b3, 0, none⟩)) (m := 1) (c2 := 1) (olds := l5) (news := l6) rfl Tryz.underlying62 Tryz.underlying62 Tryz.typeInfo5 rfl (by decide) h1 h2 h3 h4 h5 h6 h7 ?_)
   intro A9 c9 w10 e1; replace h := h A9 c9 w10 e1
   refine qbr (qz (qx (qbr (qu (qz (wp_seq (qx (qbt 3 (qq (qag (cs := ([.int .u8 (IntKind.u8.wrap (Int.fdiv x7 (2 ^ 8)))] : List Value)) rfl Tryz.underlying62 Tryz.sizeOf5 Tryz.zeroValue5 (by kernel_rfl) (by decide) (by decide) ?_))))))))))
   intro b4 w11 e1 e2; replace h := h b4 w11 e1 e2
   obtain ⟨l7, l8, h1, h2, h3, h4, h5, h6, h7, h⟩ := h
   refine qq (qad (A := A9) (n := (n6 + 1)) (c := c9) (B := (some ⟨b4, 0, none⟩)) (m := 1) (c2 := 1) (olds := l7) (news := l8) rfl Tryz.underlying62 Tryz.underlying62 Tryz.typeInfo5 rfl (by decide) h1 h2 h3 h4 h5 h6 h7 ?_)
   intro A10 c10 w12 e1; replace h := h A10 c10 w12 e1
   refine qbr (qz (qx (qbr (qu (qz ?_)))))
   exact ⟨((Int.fdiv (Int.fdiv x7 (2 ^ 8)) (2 ^ 8)), A10, ((n6 + 1) + 1), c10), h, qaa⟩
  ·clear hJ2
   refine wp_block (wp_seq (wp_block ?_))
   obtain ⟨J3, hJ3, h⟩ := h
   refine wp_seq_join (σ := Int × (Option Addr) × Nat × Nat) (fun s vj3 => ⟨#[.slice A1 n1 c1, .int .u64 s.1, .int .i64 x2, undef, undef, undef, .slice none 0 0, .slice s.2.1 s.2.2.1 s.2.2.2, .slice A1 n1 c1, .slice A2 n2 c2, .int .i64 x2, .int .i64 x3, .bool (x3 == 8), .bool (x3 == 8), vj3 14, vj3 15, vj3 16, vj3 17, undef, undef, undef, undef, undef, undef, undef, undef, vj3 26, vj3 27, vj3 28, vj3 29, vj3 30, vj3 31, vj3 32, vj3 33, vj3 34, vj3 35, vj3 36, vj3 37, vj3 38, vj3 39, undef, undef, undef, undef, undef, undef, undef, undef, undef, undef, undef, undef, undef, undef, undef, undef, undef, undef, undef, undef, undef, undef, undef, undef, undef, undef, undef, undef, undef, undef, undef, undef, undef, undef, undef, undef, undef, undef, undef, undef, undef], []⟩) (fun s w => J3 s.1 s.2.1 s.2.2.1 s.2.2.2 w) ?_ ?_
   ·clear h; rintro ⟨x9, A12, n8, c12⟩ vj3 w13 hj
    have h := hJ3 x9 A12 n8 c12 w13 hj
    refine wp_seq (qx (qbt 3 (qq (qag (cs := ([.int .u8 (IntKind.u8.wrap x9)] : List Value)) rfl Tryz.underlying62 Tryz.sizeOf5 Tryz.zeroValue5 (by kernel_rfl) (by decide) (by decide) ?_))))
    intro b5 w14 e1 e2; replace h := h b5 w14 e1 e2
    obtain ⟨l9, l10, h1, h2, h3, h4, h5, h6, h7, h⟩ := h
    refine qq (qad (A := A12) (n := n8) (c := c12) (B := (some ⟨b5, 0, none⟩)) (m := 1) (c2 := 1) (olds := l9) (news := l10) rfl Tryz.underlying62 Tryz.underlying62 Tryz.typeInfo5 rfl (by decide) h1 h2 h3 h4 h5 h6 h7 ?_)
    intro A13 c13 w15 e1; replace h := h A13 c13 w15 e1
    refine qbr (qz (qx (qbr (qu (qz (wp_seq (qx (qbt 3 (qq (qag (cs := ([.int .u8 (IntKind.u8.wrap (Int.fdiv x9 (2 ^ 8)))] : List Value)) rfl Tryz.underlying62 Tryz.sizeOf5 Tryz.zeroValue5 (by kernel_rfl) (by decide) (by decide) ?_))))))))))
    intro b6 w16 e1 e2; replace h := h b6 w16 e1 e2
    obtain ⟨l11, l12, h1, h2, h3, h4, h5, h6, h7, h⟩ := h
    refine qq (qad (A := A13) (n := (n8 + 1)) (c := c13) (B := (some ⟨b6, 0, none⟩)) (m := 1) (c2 := 1) (olds := l11) (news := l12) rfl Tryz.underlying62 Tryz.underlying62 Tryz.typeInfo5 rfl (by decide) h1 h2 h3 h4 h5 h6 h7 ?_)
    intro A14 c14 w17 e1; replace h := h A14 c14 w17 e1
    refine qbr (qz (qx (qbr (qu (qz ?_)))))
    exact ⟨((Int.fdiv (Int.fdiv x9 (2 ^ 8)) (2 ^ 8)), A14, ((n8 + 1) + 1), c14), h, qaa⟩
   ·clear hJ3
    refine wp_block (wp_seq (wp_block (wp_seq (wp_block (wp_seq (wp_seq (wp_seq (qx (qbr (qz (wp_cond_split (t := (x3 == 8)) (by kernel_rfl) (fun hb => ?_) (fun hb => ?_))))))))))))
    ·replace h := h.1 (eq_of_beq hb)
     refine wp_exit (qr (qr (block_exit_eq (qz (wp_seq (qx (qbt 3 (qq (qag (cs := ([.int .u8 (IntKind.u8.wrap x1)] : List Value)) rfl Tryz.underlying62 Tryz.sizeOf5 Tryz.zeroValue5 (by kernel_rfl) (by decide) (by decide) ?_)))))))))
     intro b7 w18 e1 e2; replace h := h b7 w18 e1 e2
     obtain ⟨l13, l14, h1, h2, h3, h4, h5, h6, h7, h⟩ := h
     refine qq (qad (A := A2) (n := n2) (c := c2) (B := (some ⟨b7, 0, none⟩)) (m := 1) (c2 := 1) (olds := l13) (news := l14) rfl Tryz.underlying62 Tryz.underlying62 Tryz.typeInfo5 rfl (by decide) h1 h2 h3 h4 h5 h6 h7 ?_)
     intro A15 c15 w19 e1; replace h := h A15 c15 w19 e1
     refine qbr (qz (qx (qbr (qu (qz (wp_seq (qx (qbt 3 (qq (qag (cs := ([.int .u8 (IntKind.u8.wrap (Int.fdiv x1 (2 ^ 8)))] : List Value)) rfl Tryz.underlying62 Tryz.sizeOf5 Tryz.zeroValue5 (by kernel_rfl) (by decide) (by decide) ?_))))))))))
     intro b8 w20 e1 e2; replace h := h b8 w20 e1 e2
     obtain ⟨l15, l16, h1, h2, h3, h4, h5, h6, h7, h⟩ := h
     refine qq (qad (A := A15) (n := (n2 + 1)) (c := c15) (B := (some ⟨b8, 0, none⟩)) (m := 1) (c2 := 1) (olds := l15) (news := l16) rfl Tryz.underlying62 Tryz.underlying62 Tryz.typeInfo5 rfl (by decide) h1 h2 h3 h4 h5 h6 h7 ?_)
     intro A16 c16 w21 e1; replace h := h A16 c16 w21 e1
     refine qbr (qz (qx (qbr (qu (qz ?_)))))
     exact ⟨((Int.fdiv (Int.fdiv x1 (2 ^ 8)) (2 ^ 8)), A16, ((n2 + 1) + 1), c16), h, qaa⟩
    ·replace h := h.2 (ne_of_beq_false hb)
     refine wp_skip (qz (wp_seq (wp_seq (qx (qbr (qz (wp_cond_split (t := (x3 == 7)) (by kernel_rfl) (fun hb => ?_) (fun hb => ?_))))))))
     ·replace h := h.1 (eq_of_beq hb)
      refine wp_exit (qr (qr (block_exit_ne (by decide) (qr (block_exit_eq (qz (wp_seq (qx (qbt 3 (qq (qag (cs := ([.int .u8 (IntKind.u8.wrap x1)] : List Value)) rfl Tryz.underlying62 Tryz.sizeOf5 Tryz.zeroValue5 (by kernel_rfl) (by decide) (by decide) ?_)))))))))))
      intro b9 w22 e1 e2; replace h := h b9 w22 e1 e2
      obtain ⟨l17, l18, h1, h2, h3, h4, h5, h6, h7, h⟩ := h
      refine qq (qad (A := A2) (n := n2) (c := c2) (B := (some ⟨b9, 0, none⟩)) (m := 1) (c2 := 1) (olds := l17) (news := l18) rfl Tryz.underlying62 Tryz.underlying62 Tryz.typeInfo5 rfl (by decide) h1 h2 h3 h4 h5 h6 h7 ?_)
      intro A17 c17 w23 e1; replace h := h A17 c17 w23 e1
      refine qbr (qz (qx (qbr (qu (qz ?_)))))
      exact ⟨((Int.fdiv x1 (2 ^ 8)), A17, (n2 + 1), c17), h, qaa⟩
     ·replace h := h.2 (ne_of_beq_false hb)
      refine wp_skip (qz (wp_seq (wp_seq (qx (qbr (qz (wp_cond_split (t := (x3 == 6)) (by kernel_rfl) (fun hb => ?_) (fun hb => ?_))))))))
      ·replace h := h.1 (eq_of_beq hb)
       refine wp_exit (qr (qr (block_exit_ne (by decide) (qr (block_exit_ne (by decide) (qr (block_exit_eq (qz ?_))))))))
       exact ⟨(x1, A2, n2, c2), h, qaa⟩
      ·replace h := h.2 (ne_of_beq_false hb)
       refine wp_skip (qz (wp_seq (wp_seq (qx (qbr (qz (wp_cond_split (t := (x3 == 5)) (by kernel_rfl) (fun hb => ?_) (fun hb => ?_))))))))
       ·replace h := h.1 (eq_of_beq hb)
        refine wp_exit (qr (qr (block_exit_ne (by decide) (qr (block_exit_ne (by decide) (qr (block_exit_ne (by decide) (qr (block_exit_eq (qz (wp_seq (qx (qbt 3 (qq (qag (cs := ([.int .u8 (IntKind.u8.wrap x1)] : List Value)) rfl Tryz.underlying62 Tryz.sizeOf5 Tryz.zeroValue5 (by kernel_rfl) (by decide) (by decide) ?_)))))))))))))))
        intro b10 w24 e1 e2; replace h := h b10 w24 e1 e2
        obtain ⟨l19, l20, h1, h2, h3, h4, h5, h6, h7, h⟩ := h
        refine qq (qad (A := A2) (n := n2) (c := c2) (B := (some ⟨b10, 0, none⟩)) (m := 1) (c2 := 1) (olds := l19) (news := l20) rfl Tryz.underlying62 Tryz.underlying62 Tryz.typeInfo5 rfl (by decide) h1 h2 h3 h4 h5 h6 h7 ?_)
        intro A18 c18 w25 e1; replace h := h A18 c18 w25 e1
        refine qbr (qz (qx (qbr (qu (qz ?_)))))
        exact ⟨((Int.fdiv x1 (2 ^ 8)), A18, (n2 + 1), c18), h, qaa⟩
       ·replace h := h.2 (ne_of_beq_false hb)
        refine wp_skip (qz (wp_seq (wp_seq (qx (qbr (qz (wp_cond_split (t := (x3 == 4)) (by kernel_rfl) (fun hb => ?_) (fun hb => ?_))))))))
        ·replace h := h.1 (eq_of_beq hb)
         refine wp_exit (qr (qr (block_exit_ne (by decide) (qr (block_exit_ne (by decide) (qr (block_exit_ne (by decide) (qr (block_exit_ne (by decide) (qr (block_exit_eq (qz ?_))))))))))))
         exact ⟨(x1, A2, n2, c2), h, qaa⟩
        ·replace h := h.2 (ne_of_beq_false hb)
         refine wp_skip (qz (wp_seq (wp_seq (qx (qbr (qz (wp_cond_split (t := (x3 == 3)) (by kernel_rfl) (fun hb => ?_) (fun hb => ?_))))))))
         ·replace h := h.1 (eq_of_beq hb)
          refine wp_exit (qr (qr (block_exit_ne (by decide) (qr (block_exit_ne (by decide) (qr (block_exit_ne (by decide) (qr (block_exit_ne (by decide) (qr (block_exit_ne (by decide) (qr (block_exit_eq (qz (wp_seq (qx (qbt 3 (qq (qag (cs := ([.int .u8 (IntKind.u8.wrap x1)] : List Value)) rfl Tryz.underlying62 Tryz.sizeOf5 Tryz.zeroValue5 (by kernel_rfl) (by decide) (by decide) ?_)))))))))))))))))))
          intro b11 w26 e1 e2; replace h := h b11 w26 e1 e2
          obtain ⟨l21, l22, h1, h2, h3, h4, h5, h6, h7, h⟩ := h
          refine qq (qad (A := A2) (n := n2) (c := c2) (B := (some ⟨b11, 0, none⟩)) (m := 1) (c2 := 1) (olds := l21) (news := l22) rfl Tryz.underlying62 Tryz.underlying62 Tryz.typeInfo5 rfl (by decide) h1 h2 h3 h4 h5 h6 h7 ?_)
          intro A19 c19 w27 e1; replace h := h A19 c19 w27 e1
          refine qbr (qz (qx (qbr (qu (qz ?_)))))
          exact ⟨((Int.fdiv x1 (2 ^ 8)), A19, (n2 + 1), c19), h, qaa⟩
         ·replace h := h.2 (ne_of_beq_false hb)
          refine wp_skip (qz (wp_seq (qx (qbr (qz (wp_cond_split (t := (x3 == 2)) (by kernel_rfl) (fun hb => ?_) (fun hb => ?_)))))))
          ·replace h := h.1 (eq_of_beq hb)
           refine wp_exit (qr (block_exit_ne (by decide) (qr (block_exit_ne (by decide) (qr (block_exit_ne (by decide) (qr (block_exit_ne (by decide) (qr (block_exit_ne (by decide) (qr (block_exit_ne (by decide) (qr (block_exit_eq (qz ?_)))))))))))))))
           exact ⟨(x1, A2, n2, c2), h, qaa⟩
          ·replace h := h.2 (ne_of_beq_false hb)
           refine wp_skip (qz (wp_exit (block_exit_ne (by decide) (qr (block_exit_ne (by decide) (qr (block_exit_ne (by decide) (qr (block_exit_ne (by decide) (qr (block_exit_ne (by decide) (qr (block_exit_ne (by decide) (qr (block_exit_ne (by decide) (qr (block_exit_eq (qz (wp_seq (qx (qbt 3 (qq (qag (cs := ([.int .u8 (IntKind.u8.wrap x1)] : List Value)) rfl Tryz.underlying62 Tryz.sizeOf5 Tryz.zeroValue5 (by kernel_rfl) (by decide) (by decide) ?_)))))))))))))))))))))))
           intro b12 w28 e1 e2; replace h := h b12 w28 e1 e2
           obtain ⟨l23, l24, h1, h2, h3, h4, h5, h6, h7, h⟩ := h
           refine qq (qad (A := A2) (n := n2) (c := c2) (B := (some ⟨b12, 0, none⟩)) (m := 1) (c2 := 1) (olds := l23) (news := l24) rfl Tryz.underlying62 Tryz.underlying62 Tryz.typeInfo5 rfl (by decide) h1 h2 h3 h4 h5 h6 h7 ?_)
           intro A20 c20 w29 e1; replace h := h A20 c20 w29 e1
           refine qbr (qz (wp_exit (block_exit_eq (qz (wp_seq (qx (qbr (qz (wp_ret ?_)))))))))
           exact qbh (v := .slice A20 (n2 + 1) c20) h
def S_64 (A1 : Option Addr) (n1 c1 : Nat) (w : World) (Q : Value → World → Prop) : Prop :=
 (A1 = none →
 Q (.slice none 0 0) w) ∧
 (A1 ≠ none →
 ∀ b1 w1, b1 = w.heap.size → w1 = w.alloc (.cells #[] 5) →
 ∃ l1 l2 : List Value, (0 + n1) * 1 ≤ 140737488355328 ∧ l1.length = 0 * 1 ∧ RdS w1 (some ⟨b1, 0, none⟩) l1 ∧ l2.length = n1 * 1 ∧ RdS w1 A1 l2 ∧ One l2 ∧ (0 + n1 ≤ 0 → Room w1 (some ⟨b1, 0, none⟩) (0 * 1) (n1 * 1)) ∧
 ∀ A2 c2 w2, Appended w1 5 1 #[.int .u8 0] (some ⟨b1, 0, none⟩) 0 0 n1 l1 l2 A2 c2 w2 →
 Q (.slice A2 (0 + n1) c2) w2)
theorem L_64 (A1 : Option Addr) (n1 c1 : Nat) (w : World) (Q : Value → World → Prop) (h : S_64 A1 n1 c1 w Q) : Ret Tryz.prog 64 #[.slice A1 n1 c1] w Q := by
 unfold S_64 at h
 refine ret_of_wp Tryz.func64 rfl (wp_seq (qx (qbr (qz (wp_seq (wp_seq (qx (qbt 1 (qq (qam (A := A1) (n := n1) (c := c1) rfl Tryz.underlying62 ?_))))))))))
 refine qo (qz (wp_cond_split (t := A1.isNone) (by kernel_rfl) (fun hb => ?_) (fun hb => ?_)))
 ·replace h := h.1 (Option.isNone_iff_eq_none.1 hb)
  refine wp_seq (qx (qbr (qz (wp_ret (qs ?_)))))
  exact qbh (v := .slice none 0 0) h
 ·replace h := h.2 (ne_none_of hb)
  refine wp_skip (qz (wp_seq (qx (qq (qah rfl Tryz.underlying62 Tryz.sizeOf5 ?_)))))
  intro b1 w1 e1 e2; replace h := h b1 w1 e1 e2
  refine qbt 1 ?_
  obtain ⟨l1, l2, h1, h2, h3, h4, h5, h6, h7, h⟩ := h
  refine qq (qad (A := (some ⟨b1, 0, none⟩)) (n := 0) (c := 0) (B := A1) (m := n1) (c2 := c1) (olds := l1) (news := l2) rfl Tryz.underlying62 Tryz.underlying62 Tryz.typeInfo5 rfl (by decide) h1 h2 h3 h4 h5 h6 h7 ?_)
  intro A2 c2 w2 e1; replace h := h A2 c2 w2 e1
  refine qbr (qz (wp_ret ?_))
  exact qbh (v := .slice A2 (0 + n1) c2) h
def S_78 (x1 : Int) (w : World) (Q : Value → World → Prop) : Prop :=
 Q (.int .i64 (imin (imax x1 1) 8)) w
theorem L_78 (x1 : Int) (w : World) (Q : Value → World → Prop) (h : S_78 x1 w Q) : Ret Tryz.prog 78 #[.int .i64 x1] w Q := by
 unfold S_78 at h
 refine ret_of_wp Tryz.func78 rfl (wp_seq (qx (qbr (qz (wp_seq (qx (qbr (qz (wp_ret ?_)))))))))
 exact qbh (v := .int .i64 (imin (imax x1 1) 8)) h
def S_48 (A1 : Option Addr) (n1 c1 : Nat) (x1 : Int) (w : World) (Q : Value → World → Prop) : Prop :=
 ((n1 : Int) > x1 →
 Q (.tuple #[.slice none 0 0, .int .i64 1]) w) ∧
 (¬ (n1 : Int) > x1 →
 Ret Tryz.prog 64 #[.slice A1 n1 c1] w fun r1 w1 => ∃ A2 n2 c2, r1 = .slice A2 n2 c2 ∧
 ∃ l1 : List Value, (0 : Int) ≤ (IntKind.i64.wrap (x1 - (n1 : Int))) ∧ (n2 + ((IntKind.i64.wrap (x1 - (n1 : Int)))).toNat) * 1 ≤ 140737488355328 ∧ l1.length = n2 ∧ RdS w1 A2 l1 ∧ (n2 + ((IntKind.i64.wrap (x1 - (n1 : Int)))).toNat ≤ c2 → Room w1 A2 n2 ((IntKind.i64.wrap (x1 - (n1 : Int)))).toNat) ∧
 ∀ A3 c3 w2, Appended w1 5 1 #[.int .u8 0] A2 n2 c2 ((IntKind.i64.wrap (x1 - (n1 : Int)))).toNat l1 (List.replicate ((IntKind.i64.wrap (x1 - (n1 : Int)))).toNat (.int .u8 0)) A3 c3 w2 →
 Q (.tuple #[.slice A3 (n2 + ((IntKind.i64.wrap (x1 - (n1 : Int)))).toNat) c3, .int .i64 0]) w2)
theorem L_48 (A1 : Option Addr) (n1 c1 : Nat) (x1 : Int) (w : World) (Q : Value → World → Prop) (h : S_48 A1 n1 c1 x1 w Q) : Ret Tryz.prog 48 #[.slice A1 n1 c1, .int .i64 x1] w Q := by
 unfold S_48 at h
 refine ret_of_wp Tryz.func48 rfl (wp_seq (qx (qbr (qz (wp_seq (wp_seq (qx (qbr (qz (wp_cond_split (t := (decide ((n1 : Int) > x1))) (by kernel_rfl) (fun hb => ?_) (fun hb => ?_)))))))))))
 ·replace h := h.1 (of_decide_eq_true hb)
  refine wp_seq (qx (qbr (qz (wp_ret (qs ?_)))))
  exact qbh (v := .tuple #[.slice none 0 0, .int .i64 1]) h
 ·replace h := h.2 (of_decide_eq_false hb)
  refine wp_skip (qz (wp_seq (qx (qbt 1 (qq (qai (args := #[.slice A1 n1 c1]) rfl Tryz.call64 (Ret.mono h ?_)))))))
  clear h; rintro r1 w1 ⟨A2, n2, c2, rfl, h⟩
  refine qbt 4 ?_
  obtain ⟨l1, h1, h2, h3, h4, h5, h⟩ := h
  refine qq (qae (A := A2) (n := n2) (c := c2) (k := .i64) (m := (IntKind.i64.wrap (x1 - (n1 : Int)))) (z := .int .u8 0) (olds := l1) rfl Tryz.underlying62 Tryz.underlying3 Tryz.typeInfo5 rfl rfl rfl (by decide) rfl h1 h2 h3 h4 h5 ?_)
  intro A3 c3 w2 e1; replace h := h A3 c3 w2 e1
  refine qbr (qz (wp_ret ?_))
  exact qbh (v := .tuple #[.slice A3 (n2 + ((IntKind.i64.wrap (x1 - (n1 : Int)))).toNat) c3, .int .i64 0]) h
end Go.Proofs.YtpkfdhlkknanmaaGreat
