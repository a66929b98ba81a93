/-
 For each function: what it asks of the world that it is called in (S_n), and that this suffices (L_n). Written by a program of this proof (gen.py) off the function's own print.
-/
import Derived.Test.YtpkfdhlkknanmaaGreatDrx
import Derived.Test.YtpkfdhlkknanmaaGreatProg
set_option linter.all false
set_option maxRecDepth 4000
namespace Go.Proofs.YtpkfdhlkknanmaaGreat
open Go Go.RowKit Go.Proofs
def S_3 (x1 : Int) (d1 : List Value) (x2 x3 x4 : Int) (d2 : List Value) (A1 : Option Addr) (n1 c1 : Nat) (A2 : Option Addr) (n2 c2 : Nat) (w : World) (Q : Value → World → Prop) : Prop :=
 ∀ b1 w1, b1 = w.heap.size → w1 = w.alloc (.cells (([.int .u8 x1] : List Value) ++ d1 ++ ([.int .u32 x2, .int .i64 x3, .int .u32 x4] : List Value) ++ d2).toArray 27) →
 ∃ x5, w1.cell? ⟨b1, 0, none⟩ = some (.int .u8 x5) ∧
 Ret Tryz.prog 4 #[.int .i64 (IntKind.i64.wrap (((IntKind.i64.wrap x5).tmod 14) + 1))] w1 fun r1 w2 => ∃ A3 n3 c3 x6, r1 = .tuple #[.agg #[.slice A3 n3 c3], .int .i64 x6] ∧
 ∀ b2 w3, b2 = w2.heap.size → w3 = w2.alloc (.cells #[.slice none 0 0] 32) →
 w3.there b2 0 1 ∧
 ∀ w4, w4 = w3.setCells b2 0 ([.slice A3 n3 c3] : List Value) →
 Ret Tryz.prog 5 #[.int .i64 (IntKind.i64.wrap (((IntKind.i64.wrap x5).tmod 14) + 1))] w4 fun r2 w5 => ∃ x7 A4 n4 c4 A5 n5 c5 x8, r2 = .tuple #[.agg #[.int .i64 x7, .slice A4 n4 c4, .slice A5 n5 c5], .int .i64 x8] ∧
 ∀ b3 w6, b3 = w5.heap.size → w6 = w5.alloc (.cells #[.int .i64 0, .slice none 0 0, .slice none 0 0] 37) →
 w6.there b3 0 3 ∧
 ∀ w7, w7 = w6.setCells b3 0 ([.int .i64 x7, .slice A4 n4 c4, .slice A5 n5 c5] : List Value) →
 Ret Tryz.prog 6 #[.slice A1 n1 c1, .slice A2 n2 c2] w7 fun r3 w8 => ∃ q1, r3 = .bool q1 ∧
 (q1 = true →
 (x6 = 0 →
 Ret Tryz.prog 7 #[] w8 fun r4 w9 => ∃ q2, r4 = .bool q2 ∧
 Q (.bool q2) w9) ∧
 (x6 ≠ 0 →
 Q (.bool false) w8)) ∧
 (q1 = false →
 (x6 ≠ 0 →
 (x6 = 0 →
 Ret Tryz.prog 7 #[] w8 fun r5 w10 => ∃ q3, r5 = .bool q3 ∧
 Q (.bool q3) w10) ∧
 (x6 ≠ 0 →
 Q (.bool false) w8)) ∧
 (x6 = 0 →
 Ret Tryz.prog 8 #[.slice A2 n2 c2] w8 fun r6 w11 => ∃ A6 n6 c6, r6 = .slice A6 n6 c6 ∧
 ∀ b4 w12, b4 = w11.heap.size → w12 = w11.alloc (.cells #[.slice A2 n2 c2, .slice A6 n6 c6] 29) →
 ∃ (I1 : Int → World → Prop) (μ1 : Int → World → Nat), I1 0 w12 ∧
 ∀ x9 w13, I1 x9 w13 →
 (x9 < 2 →
 (0 : Int) ≤ x9 ∧ x9 < (2 : Int) ∧
 ∃ A7 n7 c7, w13.cell? ⟨b4, (0 + (x9).toNat * 1), none⟩ = some (.slice A7 n7 c7) ∧
 ∃ J1 : (Option Addr) → Nat → Nat → (Option Addr) → Nat → Nat → (Option Addr) → Int → World → Prop, (∀ A10 n10 c10 A11 n11 c11 p2 x11 w14, J1 A10 n10 c10 A11 n11 c11 p2 x11 w14 →
 ∃ (d3 : List Value), d3.length = 32 ∧ w14.rangeAt b1 1 d3 ∧
 ∃ x12, w14.cell? ⟨b1, 33, none⟩ = some (.int .u32 x12) ∧
 ∃ x13 A12 n12 c12 A13 n13 c13, w14.rangeAt b3 0 ([.int .i64 x13, .slice A12 n12 c12, .slice A13 n13 c13] : List Value) ∧
 ∃ (x14 : Int) (x15 : Int) (d4 : List Value), d4.length = 32 ∧ w14.rangeAt b1 34 (([.int .i64 x14, .int .u32 x15] : List Value) ++ d4) ∧
 Ret Tryz.prog 12 #[.agg d3.toArray, .int .u32 x12, .agg #[.int .i64 x13, .slice A12 n12 c12, .slice A13 n13 c13], .agg (([.int .i64 x14, .int .u32 x15] : List Value) ++ d4).toArray, .slice A1 n1 c1, .slice A7 n7 c7] w14 fun r7 w15 => ∃ (A14 : Option Addr) (n14 : Nat) (c14 : Nat) (A15 : Option Addr) (n15 : Nat) (c15 : Nat) (x16 : Int) (x17 : Int) (d5 : List Value) (x18 : Int), r7 = .agg (([.slice A14 n14 c14, .slice A15 n15 c15, .int .i64 x16, .int .u32 x17] : List Value) ++ d5 ++ ([.int .i64 x18] : List Value)).toArray ∧ d5.length = 32 ∧
 ∀ b5 w16, b5 = w15.heap.size → w16 = w15.alloc (.cells (([.slice none 0 0, .slice none 0 0, .int .i64 0, .int .u32 0] : List Value) ++ (List.replicate 32 (.int .u8 0 : Value)) ++ ([.int .i64 0] : List Value)).toArray 54) →
 (([.slice A14 n14 c14, .slice A15 n15 c15, .int .i64 x16, .int .u32 x17] : List Value) ++ d5 ++ ([.int .i64 x18] : List Value)).length = 37 ∧ One (([.slice A14 n14 c14, .slice A15 n15 c15, .int .i64 x16, .int .u32 x17] : List Value) ++ d5 ++ ([.int .i64 x18] : List Value)) ∧ w16.there b5 0 37 ∧
 ∀ w17, w17 = w16.setCells b5 0 (([.slice A14 n14 c14, .slice A15 n15 c15, .int .i64 x16, .int .u32 x17] : List Value) ++ d5 ++ ([.int .i64 x18] : List Value)) →
 ∃ x19, w17.cell? ⟨b5, 36, none⟩ = some (.int .i64 x19) ∧
 (x11 ≠ x19 →
 Q (.bool false) w17) ∧
 (x11 = x19 →
 ∃ b6 o1, p2 = some ⟨b6, o1, none⟩ ∧
 ∃ (x20 : Int) (x21 : Int) (d6 : List Value), d6.length = 32 ∧ w17.rangeAt b6 o1 (([.int .i64 x20, .int .u32 x21] : List Value) ++ d6) ∧
 ∃ (x22 : Int) (x23 : Int) (d7 : List Value), d7.length = 32 ∧ w17.rangeAt b5 2 (([.int .i64 x22, .int .u32 x23] : List Value) ++ d7) ∧
 ∃ q4, (∀ W, EqRun Tryz.prog W 25 (.agg (([.int .i64 x20, .int .u32 x21] : List Value) ++ d6).toArray) (.agg (([.int .i64 x22, .int .u32 x23] : List Value) ++ d7).toArray) q4) ∧
 (q4 = false →
 Q (.bool false) w17) ∧
 (q4 = true →
 ∃ (A16 : Option Addr) (n16 : Nat) (c16 : Nat) (A17 : Option Addr) (n17 : Nat) (c17 : Nat) (x24 : Int) (x25 : Int) (d8 : List Value) (x26 : Int), d8.length = 32 ∧ w17.rangeAt b5 0 (([.slice A16 n16 c16, .slice A17 n17 c17, .int .i64 x24, .int .u32 x25] : List Value) ++ d8 ++ ([.int .i64 x26] : List Value)) ∧
 Ret Tryz.prog 13 #[.slice A10 n10 c10, .agg (([.slice A16 n16 c16, .slice A17 n17 c17, .int .i64 x24, .int .u32 x25] : List Value) ++ d8 ++ ([.int .i64 x26] : List Value)).toArray] w17 fun r8 w18 => ∃ q5, r8 = .bool q5 ∧
 (q5 = false →
 Q (.bool false) w18) ∧
 (q5 = true →
 ∃ A18 n18 c18, w18.cell? ⟨b5, 1, none⟩ = some (.slice A18 n18 c18) ∧
 Ret Tryz.prog 14 #[.slice A11 n11 c11, .slice A18 n18 c18] w18 fun r9 w19 => ∃ q6, r9 = .bool q6 ∧
 (q6 = false →
 Q (.bool false) w19) ∧
 (q6 = true →
 I1 (IntKind.i64.wrap (x9 + 1)) w19 ∧ μ1 (IntKind.i64.wrap (x9 + 1)) w19 < μ1 x9 w13))))) ∧
 ∀ w20, w20 = w13.drew →
 ∃ (d9 : List Value), d9.length = 32 ∧ w13.rangeAt b1 1 d9 ∧
 ∃ x27, w13.cell? ⟨b1, 33, none⟩ = some (.int .u32 x27) ∧
 ∃ A19 n19 c19, w13.rangeAt b2 0 ([.slice A19 n19 c19] : List Value) ∧
 ∃ (x28 : Int) (x29 : Int) (d10 : List Value), d10.length = 32 ∧ w13.rangeAt b1 34 (([.int .i64 x28, .int .u32 x29] : List Value) ++ d10) ∧
 ∀  wp1_0, Ext w20 wp1_0 → Fl w20.heap.size [] wp1_0 [] →
 Ret Tryz.prog 10 #[.slice A1 n1 c1] wp1_0 fun rr1 wq1_0 => ∃ A20 n20 c20, rr1 = .slice A20 n20 c20 ∧ KeepFl w20.heap.size wp1_0 wq1_0 ∧ Keep w13 wq1_0 ∧
 ∀  wp1_1, Ext wq1_0 wp1_1 → Fl w20.heap.size [(wp1_0.heap.size, wq1_0.heap.size)] wp1_1 [] →
 Ret Tryz.prog 11 #[.slice A7 n7 c7] wp1_1 fun rr1 wq1_1 => ∃ A21 n21 c21, rr1 = .slice A21 n21 c21 ∧ KeepFl w20.heap.size wp1_1 wq1_1 ∧ Keep w13 wq1_1 ∧
 ∀  wp1_2, Ext wq1_1 wp1_2 → Fl w20.heap.size [(wp1_1.heap.size, wq1_1.heap.size), (wp1_0.heap.size, wq1_0.heap.size)] wp1_2 [] →
 Ret Tryz.prog 9 #[.pointer none, .agg d9.toArray, .int .u32 x27, .agg #[.slice A19 n19 c19], .agg (([.int .i64 x28, .int .u32 x29] : List Value) ++ d10).toArray, .slice A20 n20 c20, .slice A21 n21 c21] wp1_2 fun rr1 wq1_2 => ∃ (A22 : Option Addr) (n22 : Nat) (c22 : Nat) (A23 : Option Addr) (n23 : Nat) (c23 : Nat) (x30 : Int) (x31 : Int) (d11 : List Value) (x32 : Int), rr1 = .tuple #[.slice A22 n22 c22, .slice A23 n23 c23, .agg (([.int .i64 x30, .int .u32 x31] : List Value) ++ d11).toArray, .int .i64 x32] ∧ d11.length = 32 ∧ KeepFl w20.heap.size wp1_2 wq1_2 ∧
 ∀ bF1_17 wz1, Ext wq1_2 wz1 → Fl w20.heap.size [(wp1_2.heap.size, wq1_2.heap.size), (wp1_1.heap.size, wq1_1.heap.size), (wp1_0.heap.size, wq1_0.heap.size)] wz1 [(bF1_17, 46, (([.int .i64 0, .int .u32 0] : List Value) ++ (List.replicate 32 (.int .u8 0 : Value))).toArray)] →
 (([.int .i64 x30, .int .u32 x31] : List Value) ++ d11).length = 34 ∧ One (([.int .i64 x30, .int .u32 x31] : List Value) ++ d11) ∧ wz1.there bF1_17 0 34 ∧
 ∀ w1021, w1021 = wz1.setCells bF1_17 0 (([.int .i64 x30, .int .u32 x31] : List Value) ++ d11) →
 J1 A22 n22 c22 A23 n23 c23 (some ⟨bF1_17, 0, none⟩) x32 w1021) ∧
 (¬ x9 < 2 →
 Ret Tryz.prog 7 #[] w13 fun r1019 w1025 => ∃ q1020, r1019 = .bool q1020 ∧
 Q (.bool q1020) w1025)))
theorem L_3 (x1 : Int) (d1 : List Value) (x2 x3 x4 : Int) (d2 : List Value) (A1 : Option Addr) (n1 c1 : Nat) (A2 : Option Addr) (n2 c2 : Nat) (w : World) (Q : Value → World → Prop) (hp0 : d1.length = 32) (hp1 : d2.length = 32) (h : S_3 x1 d1 x2 x3 x4 d2 A1 n1 c1 A2 n2 c2 w Q) : Ret Tryz.prog 3 #[.agg (([.int .u8 x1] : List Value) ++ d1 ++ ([.int .u32 x2, .int .i64 x3, .int .u32 x4] : List Value) ++ d2).toArray, .slice A1 n1 c1, .slice A2 n2 c2] w Q := by
 unfold S_3 at h
 refine ret_of_wp Tryz.func3 rfl (wp_seq (qx (qq (qaf (v := .agg (([.int .u8 x1] : List Value) ++ d1 ++ ([.int .u32 x2, .int .i64 x3, .int .u32 x4] : List Value) ++ d2).toArray) rfl ?_))))
 intro b1 w1 e1 e2; replace h := h b1 w1 e1 e2
 refine qbr (qz (wp_seq (qx (qbt 1 ?_))))
 obtain ⟨x5, hx, h⟩ := h
 refine qq (qap (v := .int .u8 x5) rfl Tryz.isAgg5 hx ?_)
 refine qbr (qz (wp_seq (qx (qbt 1 (qq (qai (args := #[.int .i64 (IntKind.i64.wrap (((IntKind.i64.wrap x5).tmod 14) + 1))]) rfl Tryz.call4 (Ret.mono h ?_)))))))
 clear h; rintro r1 w2 ⟨A3, n3, c3, x6, rfl, h⟩
 refine qbt 3 (qq (qac rfl Tryz.zeroValue32 ?_))
 intro b2 w3 e1 e2; replace h := h b2 w3 e1 e2
 obtain ⟨hw, h⟩ := h
 refine qq (qbd (cs := ([.slice A3 n3 c3] : List Value)) rfl Tryz.sizeOf32 rfl (qab) hw ?_)
 intro w4 e1; replace h := h w4 e1
 refine qbr (qz (wp_seq (qx (qbt 1 (qq (qai (args := #[.int .i64 (IntKind.i64.wrap (((IntKind.i64.wrap x5).tmod 14) + 1))]) rfl Tryz.call5 (Ret.mono h ?_)))))))
 clear h; rintro r2 w5 ⟨x7, A4, n4, c4, A5, n5, c5, x8, rfl, h⟩
 refine qbt 3 (qq (qac rfl Tryz.zeroValue37 ?_))
 intro b3 w6 e1 e2; replace h := h b3 w6 e1 e2
 obtain ⟨hw, h⟩ := h
 refine qq (qbd (cs := ([.int .i64 x7, .slice A4 n4 c4, .slice A5 n5 c5] : List Value)) rfl Tryz.sizeOf37 rfl (qab) hw ?_)
 intro w7 e1; replace h := h w7 e1
 refine qbr (qz (wp_seq (wp_seq (qx (qbt 2 (qq (qai (args := #[.slice A1 n1 c1, .slice A2 n2 c2]) rfl Tryz.call6 (Ret.mono h ?_))))))))
 clear h; rintro r3 w8 ⟨q1, rfl, h⟩
 refine qbt 1 (wl_split (e := q1) ?_ ?_)
 ·intro hb; refine qbs 37 (e := q1) (b := true) hb ?_
  replace h := h.1 (hb)
  refine qbr (qz (wp_cond_true (by kernel_rfl) (wp_seq (qx (qbt 3 (wl_split (e := (x6 == 0)) ?_ ?_))))))
  ·intro hb; refine qbs 43 (e := (x6 == 0)) (b := true) hb ?_
   replace h := h.1 (eq_of_beq hb)
   refine qq (qai (args := #[]) rfl Tryz.call7 (Ret.mono h ?_))
   clear h; rintro r4 w9 ⟨q2, rfl, h⟩
   refine qbr (qz (wp_ret (qs ?_)))
   exact qbh (v := .bool q2) h
  ·intro hb; refine qbs 43 (e := (x6 == 0)) (b := false) hb ?_
   replace h := h.2 (ne_of_beq_false hb)
   refine qbr (qz (wp_ret (qs ?_)))
   exact qbh (v := .bool false) h
 ·intro hb; refine qbs 37 (e := q1) (b := false) hb ?_
  replace h := h.2 (hb)
  refine qbr (qz (wp_cond_split (t := (x6 != 0)) (by kernel_rfl) (fun hb => ?_) (fun hb => ?_)))
  ·replace h := h.1 (bne_iff_ne.1 hb)
   refine wp_seq (qx (qbt 3 (wl_split (e := (x6 == 0)) ?_ ?_)))
   ·intro hb; refine qbs 43 (e := (x6 == 0)) (b := true) hb ?_
    replace h := h.1 (eq_of_beq hb)
    refine qq (qai (args := #[]) rfl Tryz.call7 (Ret.mono h ?_))
    clear h; rintro r5 w10 ⟨q3, rfl, h⟩
    refine qbr (qz (wp_ret (qs ?_)))
    exact qbh (v := .bool q3) h
   ·intro hb; refine qbs 43 (e := (x6 == 0)) (b := false) hb ?_
    replace h := h.2 (ne_of_beq_false hb)
    refine qbr (qz (wp_ret (qs ?_)))
    exact qbh (v := .bool false) h
  ·replace h := h.2 (bne_false hb)
   refine wp_skip (qz (wp_seq (wp_seq (qx (qbt 2 (qq (qai (args := #[.slice A2 n2 c2]) rfl Tryz.call8 (Ret.mono h ?_))))))))
   clear h; rintro r6 w11 ⟨A6, n6, c6, rfl, h⟩
   refine qq (qag (cs := ([.slice A2 n2 c2, .slice A6 n6 c6] : List Value)) rfl Tryz.underlying43 Tryz.sizeOf29 Tryz.zeroValue29 (by kernel_rfl) (by decide) (by decide) ?_)
   intro b4 w12 e1 e2; replace h := h b4 w12 e1 e2
   refine qbr (qz (wp_block ?_))
   obtain ⟨I1, μ1, hI1, hB1⟩ := h
   refine wp_loop_st (σ := Int) (fun s a => ∃ u1 : Nat → Value, a = ⟨#[.agg (([.int .u8 x1] : List Value) ++ d1 ++ ([.int .u32 x2, .int .i64 x3, .int .u32 x4] : List Value) ++ d2).toArray, .slice A1 n1 c1, .slice A2 n2 c2, .pointer (some ⟨b1, 0, none⟩), undef, undef, u1 6, .int .i64 (IntKind.i64.wrap (((IntKind.i64.wrap x5).tmod 14) + 1)), .pointer (some ⟨b2, 0, none⟩), .int .i64 x6, .pointer (some ⟨b3, 0, none⟩), .int .i64 x8, undef, u1 13, u1 14, u1 15, u1 16, u1 17, u1 18, .pointer (some ⟨b1, 0, none⟩), .int .u8 x5, .int .i64 (IntKind.i64.wrap x5), .int .i64 ((IntKind.i64.wrap x5).tmod 14), .int .i64 (IntKind.i64.wrap (((IntKind.i64.wrap x5).tmod 14) + 1)), .tuple #[.agg #[.slice A3 n3 c3], .int .i64 x6], .int .i64 (IntKind.i64.wrap (((IntKind.i64.wrap x5).tmod 14) + 1)), .tuple #[.agg #[.slice A3 n3 c3], .int .i64 x6], .agg #[.slice A3 n3 c3], .int .i64 x6, .tuple #[.agg #[.int .i64 x7, .slice A4 n4 c4, .slice A5 n5 c5], .int .i64 x8], .int .i64 (IntKind.i64.wrap (((IntKind.i64.wrap x5).tmod 14) + 1)), .tuple #[.agg #[.int .i64 x7, .slice A4 n4 c4, .slice A5 n5 c5], .int .i64 x8], .agg #[.int .i64 x7, .slice A4 n4 c4, .slice A5 n5 c5], .int .i64 x8, .slice A1 n1 c1, .slice A2 n2 c2, .bool q1, .bool false, .int .i64 x6, .bool (x6 != 0), .bool (x6 != 0), undef, undef, undef, undef, undef, .slice A2 n2 c2, .slice A2 n2 c2, .slice A6 n6 c6, .slice (some ⟨b4, 0, none⟩) 2 2, .int .i64 2, .int .i64 s, u1 52, u1 53, u1 54, u1 55, u1 56, u1 57, u1 58, u1 59, u1 60, u1 61, u1 62, u1 63, u1 64, u1 65, u1 66, u1 67, u1 68, u1 69, u1 70, u1 71, u1 72, u1 73, u1 74, u1 75, u1 76, u1 77, u1 78, u1 79, u1 80, u1 81, u1 82, u1 83, u1 84, u1 85, u1 86, u1 87, u1 88, u1 89, u1 90, u1 91, u1 92, u1 93, u1 94, u1 95, u1 96, u1 97, u1 98, u1 99, u1 100, u1 101, u1 102, u1 103, u1 104, u1 105, undef], []⟩) (fun s w => I1 s w) (fun s w => μ1 s w) (0) (qaa) hI1 ?_
   rintro x9 a w13 ⟨u1, rfl⟩ hI1
   have h := hB1 x9 w13 hI1
   refine wp_seq (qx (qbr (qz (wp_seq (wp_cond_split (t := (decide (x9 < 2))) (by kernel_rfl) (fun hb => ?_) (fun hb => ?_))))))
   ·replace h := h.1 (of_decide_eq_true hb)
    refine wp_skip (qz (wp_seq (wp_block (wp_seq (qx ?_)))))
    obtain ⟨h1, h2, h⟩ := h
    refine qq (qan (k := .i64) (j := x9) (b := b4) (off := 0) (n := 2) (c := 2) rfl Tryz.underlying43 Tryz.sizeOf29 h1 h2 ?_)
    obtain ⟨A7, n7, c7, hx, h⟩ := h
    refine qq (qap (v := .slice A7 n7 c7) rfl Tryz.isAgg29 hx ?_)
    refine qbr (qz ?_)
    obtain ⟨J1, hJ1, h⟩ := h
    refine wp_seq_join (σ := (Option Addr) × Nat × Nat × (Option Addr) × Nat × Nat × (Option Addr) × Int) (fun s vj1 => ⟨#[.agg (([.int .u8 x1] : List Value) ++ d1 ++ ([.int .u32 x2, .int .i64 x3, .int .u32 x4] : List Value) ++ d2).toArray, .slice A1 n1 c1, .slice A2 n2 c2, .pointer (some ⟨b1, 0, none⟩), undef, undef, u1 6, .int .i64 (IntKind.i64.wrap (((IntKind.i64.wrap x5).tmod 14) + 1)), .pointer (some ⟨b2, 0, none⟩), .int .i64 x6, .pointer (some ⟨b3, 0, none⟩), .int .i64 x8, undef, .slice A7 n7 c7, .slice s.1 s.2.1 s.2.2.1, .slice s.2.2.2.1 s.2.2.2.2.1 s.2.2.2.2.2.1, .pointer s.2.2.2.2.2.2.1, .int .i64 s.2.2.2.2.2.2.2, u1 18, .pointer (some ⟨b1, 0, none⟩), .int .u8 x5, .int .i64 (IntKind.i64.wrap x5), .int .i64 ((IntKind.i64.wrap x5).tmod 14), .int .i64 (IntKind.i64.wrap (((IntKind.i64.wrap x5).tmod 14) + 1)), .tuple #[.agg #[.slice A3 n3 c3], .int .i64 x6], .int .i64 (IntKind.i64.wrap (((IntKind.i64.wrap x5).tmod 14) + 1)), .tuple #[.agg #[.slice A3 n3 c3], .int .i64 x6], .agg #[.slice A3 n3 c3], .int .i64 x6, .tuple #[.agg #[.int .i64 x7, .slice A4 n4 c4, .slice A5 n5 c5], .int .i64 x8], .int .i64 (IntKind.i64.wrap (((IntKind.i64.wrap x5).tmod 14) + 1)), .tuple #[.agg #[.int .i64 x7, .slice A4 n4 c4, .slice A5 n5 c5], .int .i64 x8], .agg #[.int .i64 x7, .slice A4 n4 c4, .slice A5 n5 c5], .int .i64 x8, .slice A1 n1 c1, .slice A2 n2 c2, .bool q1, .bool false, .int .i64 x6, .bool (x6 != 0), .bool (x6 != 0), undef, undef, undef, undef, undef, .slice A2 n2 c2, .slice A2 n2 c2, .slice A6 n6 c6, .slice (some ⟨b4, 0, none⟩) 2 2, .int .i64 2, .int .i64 x9, .bool (decide (x9 < 2)), .pointer (some ⟨b4, (0 + (x9).toNat * 1), none⟩), .slice A7 n7 c7, vj1 55, .pointer (some ⟨b1, 1, none⟩), vj1 57, .pointer (some ⟨b1, 33, none⟩), vj1 59, vj1 60, .pointer (some ⟨b1, 34, none⟩), vj1 62, .slice A1 n1 c1, vj1 64, .slice A7 n7 c7, vj1 66, vj1 67, vj1 68, vj1 69, vj1 70, vj1 71, u1 72, u1 73, u1 74, u1 75, u1 76, u1 77, u1 78, u1 79, u1 80, u1 81, u1 82, u1 83, u1 84, u1 85, u1 86, u1 87, u1 88, u1 89, u1 90, u1 91, u1 92, u1 93, u1 94, u1 95, u1 96, u1 97, u1 98, u1 99, u1 100, u1 101, u1 102, u1 103, u1 104, u1 105, undef], []⟩) (fun s w => J1 s.1 s.2.1 s.2.2.1 s.2.2.2.1 s.2.2.2.2.1 s.2.2.2.2.2.1 s.2.2.2.2.2.2.1 s.2.2.2.2.2.2.2 w) ?_ ?_
    ·clear h; rintro ⟨A10, n10, c10, A11, n11, c11, p2, x11⟩ vj1 w14 hj
     have h := hJ1 A10 n10 c10 A11 n11 c11 p2 x11 w14 hj
     refine wp_seq (qx (qbt 1 ?_))
     obtain ⟨d3, hl0, hx, h⟩ := h
     refine qq (qaq (cs := d3) rfl Tryz.isAgg22 Tryz.sizeOf22 (by simp [hl0]) hx ?_)
     refine qbt 1 ?_
     obtain ⟨x12, hx, h⟩ := h
     refine qq (qap (v := .int .u32 x12) rfl Tryz.isAgg23 hx ?_)
     obtain ⟨x13, A12, n12, c12, A13, n13, c13, hx, h⟩ := h
     refine qq (qaq (cs := ([.int .i64 x13, .slice A12 n12 c12, .slice A13 n13 c13] : List Value)) rfl Tryz.isAgg37 Tryz.sizeOf37 (by simp []) hx ?_)
     refine qbt 1 ?_
     obtain ⟨x14, x15, d4, hl0, hx, h⟩ := h
     refine qq (qaq (cs := (([.int .i64 x14, .int .u32 x15] : List Value) ++ d4)) rfl Tryz.isAgg25 Tryz.sizeOf25 (by simp [hl0]) hx ?_)
     refine qbt 2 (qq (qai (args := #[.agg d3.toArray, .int .u32 x12, .agg #[.int .i64 x13, .slice A12 n12 c12, .slice A13 n13 c13], .agg (([.int .i64 x14, .int .u32 x15] : List Value) ++ d4).toArray, .slice A1 n1 c1, .slice A7 n7 c7]) rfl Tryz.call12 (Ret.mono h ?_)))
     clear h; rintro r7 w15 ⟨A14, n14, c14, A15, n15, c15, x16, x17, d5, x18, rfl, hl0, h⟩
     refine qq (qac rfl Tryz.zeroValue54 ?_)
     intro b5 w16 e1 e2; replace h := h b5 w16 e1 e2
     obtain ⟨hl, h1, hw, h⟩ := h
     refine qq (qbd (cs := (([.slice A14 n14 c14, .slice A15 n15 c15, .int .i64 x16, .int .u32 x17] : List Value) ++ d5 ++ ([.int .i64 x18] : List Value))) rfl Tryz.sizeOf54 hl h1 hw ?_)
     intro w17 e1; replace h := h w17 e1
     refine qo (qz (wp_seq (qx (qbt 2 ?_))))
     obtain ⟨x19, hx, h⟩ := h
     refine qq (qap (v := .int .i64 x19) rfl Tryz.isAgg3 hx ?_)
     refine qbt 2 (wl_split (e := (x11 != x19)) ?_ ?_)
     ·intro hb; refine qbs 86 (e := (x11 != x19)) (b := true) hb ?_
      replace h := h.1 (bne_iff_ne.1 hb)
      refine qbr (qz (wp_cond_true (by kernel_rfl) (wp_seq (qx (qbr (qz (wp_ret (block_ret (qs (qs (block_ret (qs ?_))))))))))))
      exact qbh (v := .bool false) h
     ·intro hb; refine qbs 86 (e := (x11 != x19)) (b := false) hb ?_
      replace h := h.2 (bne_false hb)
      obtain ⟨b6, o1, rfl, h⟩ := h
      obtain ⟨x20, x21, d6, hl0, hx, h⟩ := h
      refine qq (qaq (cs := (([.int .i64 x20, .int .u32 x21] : List Value) ++ d6)) rfl Tryz.isAgg46 Tryz.sizeOf46 (by simp [hl0]) hx ?_)
      refine qbt 1 ?_
      obtain ⟨x22, x23, d7, hl0, hx, h⟩ := h
      refine qq (qaq (cs := (([.int .i64 x22, .int .u32 x23] : List Value) ++ d7)) rfl Tryz.isAgg25 Tryz.sizeOf25 (by simp [hl0]) hx ?_)
      obtain ⟨q4, h1, h⟩ := h
      refine qq (qau (x := .agg (([.int .i64 x20, .int .u32 x21] : List Value) ++ d6).toArray) (y := .agg (([.int .i64 x22, .int .u32 x23] : List Value) ++ d7).toArray) (b := q4) rfl h1 ?_)
      refine qbt 2 (wl_split (e := (!q4)) ?_ ?_)
      ·intro hb; refine qbs 92 (e := (!q4)) (b := true) hb ?_
       replace h := h.1 ((not_flip hb))
       refine qbr (qz (wp_cond_true (by kernel_rfl) (wp_seq (qx (qbr (qz (wp_ret (block_ret (qs (qs (block_ret (qs ?_))))))))))))
       exact qbh (v := .bool false) h
      ·intro hb; refine qbs 92 (e := (!q4)) (b := false) hb ?_
       replace h := h.2 ((not_flip hb))
       refine qbt 1 ?_
       obtain ⟨A16, n16, c16, A17, n17, c17, x24, x25, d8, x26, hl0, hx, h⟩ := h
       refine qq (qaq (cs := (([.slice A16 n16 c16, .slice A17 n17 c17, .int .i64 x24, .int .u32 x25] : List Value) ++ d8 ++ ([.int .i64 x26] : List Value))) rfl Tryz.isAgg54 Tryz.sizeOf54 (by simp [hl0]) hx ?_)
       refine qq (qai (args := #[.slice A10 n10 c10, .agg (([.slice A16 n16 c16, .slice A17 n17 c17, .int .i64 x24, .int .u32 x25] : List Value) ++ d8 ++ ([.int .i64 x26] : List Value)).toArray]) rfl Tryz.call13 (Ret.mono h ?_))
       clear h; rintro r8 w18 ⟨q5, rfl, h⟩
       refine qbt 3 (wl_split (e := (!q5)) ?_ ?_)
       ·intro hb; refine qbs 98 (e := (!q5)) (b := true) hb ?_
        replace h := h.1 ((not_flip hb))
        refine qbr (qz (wp_cond_true (by kernel_rfl) (wp_seq (qx (qbr (qz (wp_ret (block_ret (qs (qs (block_ret (qs ?_))))))))))))
        exact qbh (v := .bool false) h
       ·intro hb; refine qbs 98 (e := (!q5)) (b := false) hb ?_
        replace h := h.2 ((not_flip hb))
        refine qbt 2 ?_
        obtain ⟨A18, n18, c18, hx, h⟩ := h
        refine qq (qap (v := .slice A18 n18 c18) rfl Tryz.isAgg28 hx ?_)
        refine qq (qai (args := #[.slice A11 n11 c11, .slice A18 n18 c18]) rfl Tryz.call14 (Ret.mono h ?_))
        clear h; rintro r9 w19 ⟨q6, rfl, h⟩
        refine qbr (qz (wp_cond_split (t := (!q6)) (by kernel_rfl) (fun hb => ?_) (fun hb => ?_)))
        ·replace h := h.1 ((not_flip hb))
         refine wp_seq (qx (qbr (qz (wp_ret (block_ret (qs (qs (block_ret (qs ?_)))))))))
         exact qbh (v := .bool false) h
        ·replace h := h.2 ((not_flip hb))
         refine wp_skip (qu (qz (qx (qbr (qz ?_)))))
         exact ⟨((IntKind.i64.wrap (x9 + 1))), qaa, h.1, h.2⟩
    ·clear hJ1
     refine qbj (Keep w13) [11, 20] ?_
     intro w20 e1; have hK1 := keep_drew e1; replace h := h w20 e1; have hz1 : w13.heap.size ≤ w20.heap.size := (by rw [e1]; exact Nat.le_refl _)
     refine qbo 0 rfl (qbz (v := .pointer (some ⟨b1, 1, none⟩))) ?_
     obtain ⟨d9, hl0, hx, h⟩ := h
     refine qbn 1 rfl (qbx (cs := d9) rfl Tryz.isAgg22 Tryz.sizeOf22 (by simp [hl0]) (fun _ hk => keep_range hk hx)) hK1 ?_
     refine qbo 2 rfl (qbz (v := .pointer (some ⟨b1, 33, none⟩))) ?_
     obtain ⟨x27, hx, h⟩ := h
     refine qbn 3 rfl (qbw (v := .int .u32 x27) rfl Tryz.isAgg23 (fun _ hk => keep_cell hk hx)) hK1 ?_
     obtain ⟨A19, n19, c19, hx, h⟩ := h
     refine qbn 4 rfl (qbx (cs := ([.slice A19 n19 c19] : List Value)) rfl Tryz.isAgg32 Tryz.sizeOf32 (by simp []) (fun _ hk => keep_range hk hx)) hK1 ?_
     refine qbo 5 rfl (qbz (v := .pointer (some ⟨b1, 34, none⟩))) ?_
     obtain ⟨x28, x29, d10, hl0, hx, h⟩ := h
     refine qbn 6 rfl (qbx (cs := (([.int .i64 x28, .int .u32 x29] : List Value) ++ d10)) rfl Tryz.isAgg25 Tryz.sizeOf25 (by simp [hl0]) (fun _ hk => keep_range hk hx)) hK1 ?_
     refine qbo 7 rfl (qbz (v := .slice A1 n1 c1)) (qbo 9 rfl (qbz (v := .slice A7 n7 c7)) ?_)
     have hE1_0 : Ext w20 w20 := Mod.refl _ _; have hF1_0 := Fl.nil w20
     refine qbq 8 17 rfl rfl ?_ ?_
     ·
      replace h := h  w20 hE1_0 (hF1_0.sub (by simp [Value.cells]))
      refine (qai (args := #[.slice A1 n1 c1]) rfl Tryz.call10 (Ret.mono h ?_))
      clear h; rintro r10 wq1_0 ⟨A20, n20, c20, rfl, hkf, hks, h⟩
      have hE1_7 : Ext wq1_0 wq1_0 := Mod.refl _ _; have hF1_7 := hF1_0.call hkf; have hz1_7 : w13.heap.size ≤ wq1_0.heap.size := (by have := hkf.1; omega)
      refine ⟨fun _ _ => hks, ?_⟩
      refine qbq 10 17 rfl rfl ?_ ?_
      ·
       replace h := h  wq1_0 hE1_7 (hF1_7.sub (by simp [Value.cells]))
       refine (qai (args := #[.slice A7 n7 c7]) rfl Tryz.call11 (Ret.mono h ?_))
       clear h; rintro r11 wq1_1 ⟨A21, n21, c21, rfl, hkf, hks, h⟩
       have hE1_8 : Ext wq1_1 wq1_1 := Mod.refl _ _; have hF1_8 := hF1_7.call hkf; have hz1_8 : w13.heap.size ≤ wq1_1.heap.size := (by have := hkf.1; omega)
       refine ⟨fun _ _ => hks, ?_⟩
       refine qbq 11 17 rfl rfl ?_ ?_
       ·
        replace h := h  wq1_1 hE1_8 (hF1_8.sub (by simp [Value.cells]))
        refine (qai (args := #[.pointer none, .agg d9.toArray, .int .u32 x27, .agg #[.slice A19 n19 c19], .agg (([.int .i64 x28, .int .u32 x29] : List Value) ++ d10).toArray, .slice A20 n20 c20, .slice A21 n21 c21]) rfl Tryz.call9 (Ret.mono h ?_))
        clear h; rintro r12 wq1_2 ⟨A22, n22, c22, A23, n23, c23, x30, x31, d11, x32, rfl, hl0, hkf, h⟩
        have hE1_9 : Ext wq1_2 wq1_2 := Mod.refl _ _; have hF1_9 := hF1_8.call hkf; have hz1_9 : w13.heap.size ≤ wq1_2.heap.size := (by have := hkf.1; omega)
        refine ⟨fun hh => absurd hh (by decide), ?_⟩
        refine qbo 12 rfl (qbz (v := .tuple #[.slice A22 n22 c22, .slice A23 n23 c23, .agg (([.int .i64 x30, .int .u32 x31] : List Value) ++ d11).toArray, .int .i64 x32])) (qbo 13 rfl (qbz (v := .slice A22 n22 c22)) (qbo 14 rfl (qbz (v := .slice A23 n23 c23)) (qbo 15 rfl (qbz (v := .agg (([.int .i64 x30, .int .u32 x31] : List Value) ++ d11).toArray)) (qbo 16 rfl (qbz (v := .int .i64 x32)) (qbm 17 rfl ((qac rfl Tryz.zeroValue46 ?_)))))))
        intro bF1_17 wz1 e1 e2
        have hA := (Mod.refl (fun _ => False) wq1_2).alloc e2
        have hE1_10 := hE1_9.trans hA; have hF1_10 := hF1_9.alloc (cs := (([.int .i64 0, .int .u32 0] : List Value) ++ (List.replicate 32 (.int .u8 0 : Value))).toArray) (t := 46) e1 e2; have hz1_10 : w13.heap.size ≤ wz1.heap.size := (by have := hA.size; omega)
        refine ⟨fun _ hk => Keep.of_ext hk hz1_9 hA, ?_⟩
        replace h := h bF1_17 wz1 hE1_10 (hF1_10.sub (by simp [Value.cells]))
        refine qbo 18 rfl (qbz (v := .slice A22 n22 c22)) (qbo 19 rfl (qbz (v := .slice A23 n23 c23)) ?_)
        obtain ⟨hl, h1, hw, h⟩ := h
        refine qbm 20 rfl (qbd (cs := (([.int .i64 x30, .int .u32 x31] : List Value) ++ d11)) rfl Tryz.sizeOf46 hl h1 hw ?_)
        intro w1021 e1; replace h := h w1021 e1
        refine ⟨fun hh => absurd hh (by decide), ?_⟩
        refine qbo 21 rfl (qbz (v := .int .i64 x32)) (qbk (qz ?_))
        exact ⟨(A22, n22, c22, A23, n23, c23, (some ⟨bF1_17, 0, none⟩), x32), h, qaa⟩
       ·
        refine (qac rfl Tryz.zeroValue46 ?_)
        intro bF1_17 w1022 e1 e2
        have hA := (Mod.refl (fun _ => False) wq1_1).alloc e2
        have hE1_1011 := hE1_8.trans hA; have hF1_1011 := hF1_8.alloc (cs := (([.int .i64 0, .int .u32 0] : List Value) ++ (List.replicate 32 (.int .u8 0 : Value))).toArray) (t := 46) e1 e2; have hz1_1011 : w13.heap.size ≤ w1022.heap.size := (by have := hA.size; omega)
        refine ⟨fun _ hk => Keep.of_ext hk hz1_8 hA, ?_⟩
        refine qbm 11 rfl ?_
        replace h := h  w1022 hE1_1011 (hF1_1011.sub (by simp [Value.cells]))
        refine (qai (args := #[.pointer none, .agg d9.toArray, .int .u32 x27, .agg #[.slice A19 n19 c19], .agg (([.int .i64 x28, .int .u32 x29] : List Value) ++ d10).toArray, .slice A20 n20 c20, .slice A21 n21 c21]) rfl Tryz.call9 (Ret.mono h ?_))
        clear h; rintro r1013 wz1 ⟨A22, n22, c22, A23, n23, c23, x30, x31, d11, x32, rfl, hl0, hkf, h⟩
        have hE1_1012 : Ext wz1 wz1 := Mod.refl _ _; have hF1_1012 := hF1_1011.call hkf; have hz1_1012 : w13.heap.size ≤ wz1.heap.size := (by have := hkf.1; omega)
        refine ⟨fun hh => absurd hh (by decide), ?_⟩
        replace h := h bF1_17 wz1 hE1_1012 (hF1_1012.sub (by simp [Value.cells]))
        refine qbo 12 rfl (qbz (v := .tuple #[.slice A22 n22 c22, .slice A23 n23 c23, .agg (([.int .i64 x30, .int .u32 x31] : List Value) ++ d11).toArray, .int .i64 x32])) (qbo 13 rfl (qbz (v := .slice A22 n22 c22)) (qbo 14 rfl (qbz (v := .slice A23 n23 c23)) (qbo 15 rfl (qbz (v := .agg (([.int .i64 x30, .int .u32 x31] : List Value) ++ d11).toArray)) (qbo 16 rfl (qbz (v := .int .i64 x32)) (qbo 18 rfl (qbz (v := .slice A22 n22 c22)) (qbo 19 rfl (qbz (v := .slice A23 n23 c23)) ?_))))))
        obtain ⟨hl, h1, hw, h⟩ := h
        refine qbm 20 rfl (qbd (cs := (([.int .i64 x30, .int .u32 x31] : List Value) ++ d11)) rfl Tryz.sizeOf46 hl h1 hw ?_)
        intro w1021 e1; replace h := h w1021 e1
        refine ⟨fun hh => absurd hh (by decide), ?_⟩
        refine qbo 21 rfl (qbz (v := .int .i64 x32)) (qbk (qz ?_))
        exact ⟨(A22, n22, c22, A23, n23, c23, (some ⟨bF1_17, 0, none⟩), x32), h, qaa⟩
      ·
       refine (qac rfl Tryz.zeroValue46 ?_)
       intro bF1_17 w1023 e1 e2
       have hA := (Mod.refl (fun _ => False) wq1_0).alloc e2
       have hE1_1013 := hE1_7.trans hA; have hF1_1013 := hF1_7.alloc (cs := (([.int .i64 0, .int .u32 0] : List Value) ++ (List.replicate 32 (.int .u8 0 : Value))).toArray) (t := 46) e1 e2; have hz1_1013 : w13.heap.size ≤ w1023.heap.size := (by have := hA.size; omega)
       refine ⟨fun _ hk => Keep.of_ext hk hz1_7 hA, ?_⟩
       refine qbm 10 rfl ?_
       replace h := h  w1023 hE1_1013 (hF1_1013.sub (by simp [Value.cells]))
       refine (qai (args := #[.slice A7 n7 c7]) rfl Tryz.call11 (Ret.mono h ?_))
       clear h; rintro r1014 wq1_1 ⟨A21, n21, c21, rfl, hkf, hks, h⟩
       have hE1_1014 : Ext wq1_1 wq1_1 := Mod.refl _ _; have hF1_1014 := hF1_1013.call hkf; have hz1_1014 : w13.heap.size ≤ wq1_1.heap.size := (by have := hkf.1; omega)
       refine ⟨fun _ _ => hks, ?_⟩
       refine qbm 11 rfl ?_
       replace h := h  wq1_1 hE1_1014 (hF1_1014.sub (by simp [Value.cells]))
       refine (qai (args := #[.pointer none, .agg d9.toArray, .int .u32 x27, .agg #[.slice A19 n19 c19], .agg (([.int .i64 x28, .int .u32 x29] : List Value) ++ d10).toArray, .slice A20 n20 c20, .slice A21 n21 c21]) rfl Tryz.call9 (Ret.mono h ?_))
       clear h; rintro r1015 wz1 ⟨A22, n22, c22, A23, n23, c23, x30, x31, d11, x32, rfl, hl0, hkf, h⟩
       have hE1_1015 : Ext wz1 wz1 := Mod.refl _ _; have hF1_1015 := hF1_1014.call hkf; have hz1_1015 : w13.heap.size ≤ wz1.heap.size := (by have := hkf.1; omega)
       refine ⟨fun hh => absurd hh (by decide), ?_⟩
       replace h := h bF1_17 wz1 hE1_1015 (hF1_1015.sub (by simp [Value.cells]))
       refine qbo 12 rfl (qbz (v := .tuple #[.slice A22 n22 c22, .slice A23 n23 c23, .agg (([.int .i64 x30, .int .u32 x31] : List Value) ++ d11).toArray, .int .i64 x32])) (qbo 13 rfl (qbz (v := .slice A22 n22 c22)) (qbo 14 rfl (qbz (v := .slice A23 n23 c23)) (qbo 15 rfl (qbz (v := .agg (([.int .i64 x30, .int .u32 x31] : List Value) ++ d11).toArray)) (qbo 16 rfl (qbz (v := .int .i64 x32)) (qbo 18 rfl (qbz (v := .slice A22 n22 c22)) (qbo 19 rfl (qbz (v := .slice A23 n23 c23)) ?_))))))
       obtain ⟨hl, h1, hw, h⟩ := h
       refine qbm 20 rfl (qbd (cs := (([.int .i64 x30, .int .u32 x31] : List Value) ++ d11)) rfl Tryz.sizeOf46 hl h1 hw ?_)
       intro w1021 e1; replace h := h w1021 e1
       refine ⟨fun hh => absurd hh (by decide), ?_⟩
       refine qbo 21 rfl (qbz (v := .int .i64 x32)) (qbk (qz ?_))
       exact ⟨(A22, n22, c22, A23, n23, c23, (some ⟨bF1_17, 0, none⟩), x32), h, qaa⟩
     ·
      refine (qac rfl Tryz.zeroValue46 ?_)
      intro bF1_17 w1024 e1 e2
      have hA := (Mod.refl (fun _ => False) w20).alloc e2
      have hE1_1016 := hE1_0.trans hA; have hF1_1016 := hF1_0.alloc (cs := (([.int .i64 0, .int .u32 0] : List Value) ++ (List.replicate 32 (.int .u8 0 : Value))).toArray) (t := 46) e1 e2; have hz1_1016 : w13.heap.size ≤ w1024.heap.size := (by have := hA.size; omega)
      refine ⟨fun _ hk => Keep.of_ext hk hz1 hA, ?_⟩
      refine qbm 8 rfl ?_
      replace h := h  w1024 hE1_1016 (hF1_1016.sub (by simp [Value.cells]))
      refine (qai (args := #[.slice A1 n1 c1]) rfl Tryz.call10 (Ret.mono h ?_))
      clear h; rintro r1016 wq1_0 ⟨A20, n20, c20, rfl, hkf, hks, h⟩
      have hE1_1017 : Ext wq1_0 wq1_0 := Mod.refl _ _; have hF1_1017 := hF1_1016.call hkf; have hz1_1017 : w13.heap.size ≤ wq1_0.heap.size := (by have := hkf.1; omega)
      refine ⟨fun _ _ => hks, ?_⟩
      refine qbm 10 rfl ?_
      replace h := h  wq1_0 hE1_1017 (hF1_1017.sub (by simp [Value.cells]))
      refine (qai (args := #[.slice A7 n7 c7]) rfl Tryz.call11 (Ret.mono h ?_))
      clear h; rintro r1017 wq1_1 ⟨A21, n21, c21, rfl, hkf, hks, h⟩
      have hE1_1018 : Ext wq1_1 wq1_1 := Mod.refl _ _; have hF1_1018 := hF1_1017.call hkf; have hz1_1018 : w13.heap.size ≤ wq1_1.heap.size := (by have := hkf.1; omega)
      refine ⟨fun _ _ => hks, ?_⟩
      refine qbm 11 rfl ?_
      replace h := h  wq1_1 hE1_1018 (hF1_1018.sub (by simp [Value.cells]))
      refine (qai (args := #[.pointer none, .agg d9.toArray, .int .u32 x27, .agg #[.slice A19 n19 c19], .agg (([.int .i64 x28, .int .u32 x29] : List Value) ++ d10).toArray, .slice A20 n20 c20, .slice A21 n21 c21]) rfl Tryz.call9 (Ret.mono h ?_))
      clear h; rintro r1018 wz1 ⟨A22, n22, c22, A23, n23, c23, x30, x31, d11, x32, rfl, hl0, hkf, h⟩
      have hE1_1019 : Ext wz1 wz1 := Mod.refl _ _; have hF1_1019 := hF1_1018.call hkf; have hz1_1019 : w13.heap.size ≤ wz1.heap.size := (by have := hkf.1; omega)
      refine ⟨fun hh => absurd hh (by decide), ?_⟩
      replace h := h bF1_17 wz1 hE1_1019 (hF1_1019.sub (by simp [Value.cells]))
      refine qbo 12 rfl (qbz (v := .tuple #[.slice A22 n22 c22, .slice A23 n23 c23, .agg (([.int .i64 x30, .int .u32 x31] : List Value) ++ d11).toArray, .int .i64 x32])) (qbo 13 rfl (qbz (v := .slice A22 n22 c22)) (qbo 14 rfl (qbz (v := .slice A23 n23 c23)) (qbo 15 rfl (qbz (v := .agg (([.int .i64 x30, .int .u32 x31] : List Value) ++ d11).toArray)) (qbo 16 rfl (qbz (v := .int .i64 x32)) (qbo 18 rfl (qbz (v := .slice A22 n22 c22)) (qbo 19 rfl (qbz (v := .slice A23 n23 c23)) ?_))))))
      obtain ⟨hl, h1, hw, h⟩ := h
      refine qbm 20 rfl (qbd (cs := (([.int .i64 x30, .int .u32 x31] : List Value) ++ d11)) rfl Tryz.sizeOf46 hl h1 hw ?_)
      intro w1021 e1; replace h := h w1021 e1
      refine ⟨fun hh => absurd hh (by decide), ?_⟩
      refine qbo 21 rfl (qbz (v := .int .i64 x32)) (qbk (qz ?_))
      exact ⟨(A22, n22, c22, A23, n23, c23, (some ⟨bF1_17, 0, none⟩), x32), h, qaa⟩
   ·replace h := h.2 (of_decide_eq_false hb)
    refine wp_exit (qr (qr (block_exit_eq (qz (wp_seq (qx (qq (qai (args := #[]) rfl Tryz.call7 (Ret.mono h ?_)))))))))
    clear h; rintro r1019 w1025 ⟨q1020, rfl, h⟩
    refine qbr (qz (wp_ret ?_))
    exact qbh (v := .bool q1020) h
def S_6 (A1 : Option Addr) (n1 c1 : Nat) (A2 : Option Addr) (n2 c2 : Nat) (w : World) (Q : Value → World → Prop) : Prop :=
 ((n1 : Int) > 60 →
 Q (.bool true) w) ∧
 (¬ (n1 : Int) > 60 →
 ((n2 : Int) > 20 →
 Q (.bool true) w) ∧
 (¬ (n2 : Int) > 20 →
 ∃ (I1 : Int → World → Prop) (μ1 : Int → World → Nat), I1 0 w ∧
 ∀ x1 w1, I1 x1 w1 →
 (x1 < (n1 : Int) →
 ∃ b1 o1, A1 = some ⟨b1, o1, none⟩ ∧ (0 : Int) ≤ x1 ∧ x1 < (n1 : Int) ∧
 ∃ x2 A3 n3 c3, w1.rangeAt b1 (o1 + (x1).toNat * 2) ([.int .i64 x2, .slice A3 n3 c3] : List Value) ∧
 ∀ b2 w2, b2 = w1.heap.size → w2 = w1.alloc (.cells #[.int .i64 0, .slice none 0 0] 61) →
 w2.there b2 0 2 ∧
 ∀ w3, w3 = w2.setCells b2 0 ([.int .i64 x2, .slice A3 n3 c3] : List Value) →
 ∃ A4 n4 c4, w3.cell? ⟨b2, 1, none⟩ = some (.slice A4 n4 c4) ∧
 ((n4 : Int) > 20 →
 Q (.bool true) w3) ∧
 (¬ (n4 : Int) > 20 →
 I1 (IntKind.i64.wrap (x1 + 1)) w3 ∧ μ1 (IntKind.i64.wrap (x1 + 1)) w3 < μ1 x1 w1)) ∧
 (¬ x1 < (n1 : Int) →
 ∃ (I2 : Int → World → Prop) (μ2 : Int → World → Nat), I2 0 w1 ∧
 ∀ x3 w4, I2 x3 w4 →
 (x3 < (n2 : Int) →
 ∃ b3 o2, A2 = some ⟨b3, o2, none⟩ ∧ (0 : Int) ≤ x3 ∧ x3 < (n2 : Int) ∧
 ∃ x4 A5 n5 c5, w4.rangeAt b3 (o2 + (x3).toNat * 2) ([.int .i64 x4, .slice A5 n5 c5] : List Value) ∧
 ∀ b4 w5, b4 = w4.heap.size → w5 = w4.alloc (.cells #[.int .i64 0, .slice none 0 0] 64) →
 w5.there b4 0 2 ∧
 ∀ w6, w6 = w5.setCells b4 0 ([.int .i64 x4, .slice A5 n5 c5] : List Value) →
 ∃ A6 n6 c6, w6.cell? ⟨b4, 1, none⟩ = some (.slice A6 n6 c6) ∧
 ((n6 : Int) > 600 →
 Q (.bool true) w6) ∧
 (¬ (n6 : Int) > 600 →
 I2 (IntKind.i64.wrap (x3 + 1)) w6 ∧ μ2 (IntKind.i64.wrap (x3 + 1)) w6 < μ2 x3 w4)) ∧
 (¬ x3 < (n2 : Int) →
 Q (.bool false) w4))))
theorem L_6 (A1 : Option Addr) (n1 c1 : Nat) (A2 : Option Addr) (n2 c2 : Nat) (w : World) (Q : Value → World → Prop) (h : S_6 A1 n1 c1 A2 n2 c2 w Q) : Ret Tryz.prog 6 #[.slice A1 n1 c1, .slice A2 n2 c2] w Q := by
 unfold S_6 at h
 refine ret_of_wp Tryz.func6 rfl (wp_seq (qx (qbr (qz (wp_seq (wp_seq (qx (qbt 4 (wl_split (e := (decide ((n1 : Int) > 60))) ?_ ?_)))))))))
 ·intro hb; refine qbs 12 (e := (decide ((n1 : Int) > 60))) (b := true) hb ?_
  replace h := h.1 (of_decide_eq_true hb)
  refine qbr (qz (wp_cond_true (by kernel_rfl) (wp_seq (qx (qbr (qz (wp_ret (qs ?_))))))))
  exact qbh (v := .bool true) h
 ·intro hb; refine qbs 12 (e := (decide ((n1 : Int) > 60))) (b := false) hb ?_
  replace h := h.2 (of_decide_eq_false hb)
  refine qbr (qz (wp_cond_split (t := (decide ((n2 : Int) > 20))) (by kernel_rfl) (fun hb => ?_) (fun hb => ?_)))
  ·replace h := h.1 (of_decide_eq_true hb)
   refine wp_seq (qx (qbr (qz (wp_ret (qs ?_)))))
   exact qbh (v := .bool true) h
  ·replace h := h.2 (of_decide_eq_false hb)
   refine wp_skip (qz (wp_seq (wp_seq (qx (qbr (qz (wp_block ?_)))))))
   obtain ⟨I1, μ1, hI1, hB1⟩ := h
   refine wp_loop_st (σ := Int) (fun s a => ∃ u1 : Nat → Value, a = ⟨#[.slice A1 n1 c1, .slice A2 n2 c2, undef, undef, u1 4, undef, u1 6, undef, undef, .slice A1 n1 c1, .int .i64 (n1 : Int), .bool (decide ((n1 : Int) > 60)), .bool false, .slice A2 n2 c2, .int .i64 (n2 : Int), .bool (decide ((n2 : Int) > 20)), .bool (decide ((n2 : Int) > 20)), .slice A1 n1 c1, .int .i64 (n1 : Int), .int .i64 s, u1 20, u1 21, u1 22, u1 23, u1 24, u1 25, u1 26, u1 27, undef, undef, undef, undef, undef, undef, undef, undef, undef, undef, undef], []⟩) (fun s w => I1 s w) (fun s w => μ1 s w) (0) (qaa) hI1 ?_
   rintro x1 a w1 ⟨u1, rfl⟩ hI1
   have h := hB1 x1 w1 hI1
   refine wp_seq (qx (qbr (qz (wp_seq (wp_cond_split (t := (decide (x1 < (n1 : Int)))) (by kernel_rfl) (fun hb => ?_) (fun hb => ?_))))))
   ·replace h := h.1 (of_decide_eq_true hb)
    refine wp_skip (qz (wp_seq (wp_block (wp_seq (qx ?_)))))
    obtain ⟨b1, o1, rfl, h⟩ := h
    obtain ⟨h1, h2, h⟩ := h
    refine qq (qan (k := .i64) (j := x1) (b := b1) (off := o1) (n := n1) (c := c1) rfl Tryz.underlying28 Tryz.sizeOf61 h1 h2 ?_)
    obtain ⟨x2, A3, n3, c3, hx, h⟩ := h
    refine qq (qaq (cs := ([.int .i64 x2, .slice A3 n3 c3] : List Value)) rfl Tryz.isAgg61 Tryz.sizeOf61 (by simp []) hx ?_)
    refine qq (qac rfl Tryz.zeroValue61 ?_)
    intro b2 w2 e1 e2; replace h := h b2 w2 e1 e2
    obtain ⟨hw, h⟩ := h
    refine qq (qbd (cs := ([.int .i64 x2, .slice A3 n3 c3] : List Value)) rfl Tryz.sizeOf61 rfl (qab) hw ?_)
    intro w3 e1; replace h := h w3 e1
    refine qo (qz (wp_seq (qx (qbt 1 ?_))))
    obtain ⟨A4, n4, c4, hx, h⟩ := h
    refine qq (qap (v := .slice A4 n4 c4) rfl Tryz.isAgg59 hx ?_)
    refine qbr (qz (wp_cond_split (t := (decide ((n4 : Int) > 20))) (by kernel_rfl) (fun hb => ?_) (fun hb => ?_)))
    ·replace h := h.1 (of_decide_eq_true hb)
     refine wp_seq (qx (qbr (qz (wp_ret (block_ret (qs (qs (block_ret (qs ?_)))))))))
     exact qbh (v := .bool true) h
    ·replace h := h.2 (of_decide_eq_false hb)
     refine wp_skip (qu (qz (qx (qbr (qz ?_)))))
     exact ⟨((IntKind.i64.wrap (x1 + 1))), qaa, h.1, h.2⟩
   ·replace h := h.2 (of_decide_eq_false hb)
    refine wp_exit (qr (qr (block_exit_eq (qz (wp_seq (wp_seq (qx (qbr (qz (wp_block ?_))))))))))
    obtain ⟨I2, μ2, hI2, hB2⟩ := h
    refine wp_loop_st (σ := Int) (fun s a => ∃ u2 : Nat → Value, a = ⟨#[.slice A1 n1 c1, .slice A2 n2 c2, undef, undef, u2 4, undef, u1 6, undef, u2 8, .slice A1 n1 c1, .int .i64 (n1 : Int), .bool (decide ((n1 : Int) > 60)), .bool false, .slice A2 n2 c2, .int .i64 (n2 : Int), .bool (decide ((n2 : Int) > 20)), .bool (decide ((n2 : Int) > 20)), .slice A1 n1 c1, .int .i64 (n1 : Int), .int .i64 x1, .bool (decide (x1 < (n1 : Int))), u1 21, u1 22, u1 23, u1 24, u1 25, u1 26, u1 27, .slice A2 n2 c2, .int .i64 (n2 : Int), .int .i64 s, u2 31, u2 32, u2 33, u2 34, u2 35, u2 36, u2 37, u2 38], []⟩) (fun s w => I2 s w) (fun s w => μ2 s w) (0) (qaa) hI2 ?_
    rintro x3 a w4 ⟨u2, rfl⟩ hI2
    have h := hB2 x3 w4 hI2
    refine wp_seq (qx (qbr (qz (wp_seq (wp_cond_split (t := (decide (x3 < (n2 : Int)))) (by kernel_rfl) (fun hb => ?_) (fun hb => ?_))))))
    ·replace h := h.1 (of_decide_eq_true hb)
     refine wp_skip (qz (wp_seq (wp_block (wp_seq (qx ?_)))))
     obtain ⟨b3, o2, rfl, h⟩ := h
     obtain ⟨h1, h2, h⟩ := h
     refine qq (qan (k := .i64) (j := x3) (b := b3) (off := o2) (n := n2) (c := c2) rfl Tryz.underlying29 Tryz.sizeOf64 h1 h2 ?_)
     obtain ⟨x4, A5, n5, c5, hx, h⟩ := h
     refine qq (qaq (cs := ([.int .i64 x4, .slice A5 n5 c5] : List Value)) rfl Tryz.isAgg64 Tryz.sizeOf64 (by simp []) hx ?_)
     refine qq (qac rfl Tryz.zeroValue64 ?_)
     intro b4 w5 e1 e2; replace h := h b4 w5 e1 e2
     obtain ⟨hw, h⟩ := h
     refine qq (qbd (cs := ([.int .i64 x4, .slice A5 n5 c5] : List Value)) rfl Tryz.sizeOf64 rfl (qab) hw ?_)
     intro w6 e1; replace h := h w6 e1
     refine qo (qz (wp_seq (qx (qbt 1 ?_))))
     obtain ⟨A6, n6, c6, hx, h⟩ := h
     refine qq (qap (v := .slice A6 n6 c6) rfl Tryz.isAgg62 hx ?_)
     refine qbr (qz (wp_cond_split (t := (decide ((n6 : Int) > 600))) (by kernel_rfl) (fun hb => ?_) (fun hb => ?_)))
     ·replace h := h.1 (of_decide_eq_true hb)
      refine wp_seq (qx (qbr (qz (wp_ret (block_ret (qs (qs (block_ret (qs ?_)))))))))
      exact qbh (v := .bool true) h
     ·replace h := h.2 (of_decide_eq_false hb)
      refine wp_skip (qu (qz (qx (qbr (qz ?_)))))
      exact ⟨((IntKind.i64.wrap (x3 + 1))), qaa, h.1, h.2⟩
    ·replace h := h.2 (of_decide_eq_false hb)
     refine wp_exit (qr (qr (block_exit_eq (qz (wp_seq (qx (qbr (qz (wp_ret ?_)))))))))
     exact qbh (v := .bool false) h
def S_8 (A1 : Option Addr) (n1 c1 : Nat) (w : World) (Q : Value → World → Prop) : Prop :=
 ∃ (I1 : (Option Addr) → Nat → Nat → Int → World → Prop) (μ1 : (Option Addr) → Nat → Nat → Int → World → Nat), I1 none 0 0 0 w ∧
 ∀ A2 n2 c2 x1 w1, I1 A2 n2 c2 x1 w1 →
 (x1 < (n1 : Int) →
 ∃ b1 o1, A1 = some ⟨b1, o1, none⟩ ∧ (0 : Int) ≤ x1 ∧ x1 < (n1 : Int) ∧
 ∃ x2 A3 n3 c3, w1.rangeAt b1 (o1 + (x1).toNat * 2) ([.int .i64 x2, .slice A3 n3 c3] : List Value) ∧
 ∀ b2 w2, b2 = w1.heap.size → w2 = w1.alloc (.cells #[.int .i64 0, .slice none 0 0] 64) →
 w2.there b2 0 2 ∧
 ∀ w3, w3 = w2.setCells b2 0 ([.int .i64 x2, .slice A3 n3 c3] : List Value) →
 (0 : Int) ≤ 256 ∧ (256 : Int) ≤ 256 ∧ (1 : Int) * 256 ≤ 281474976710656 ∧
 ∀ b3 w4, b3 = w3.heap.size → w4 = w3.alloc (.cells (madeCells #[.int .u8 0] (256 * 1)) 5) →
 ∃ A4 n4 c4, w4.cell? ⟨b2, 1, none⟩ = some (.slice A4 n4 c4) ∧
 ∃ l1 : List Value, l1.length = Nat.min n4 256 * 1 ∧ RdS w4 A4 l1 ∧ One l1 ∧ Room w4 (some ⟨b3, 0, none⟩) 0 l1.length ∧
 ∀ w5, w5 = puts w4 (some ⟨b3, 0, none⟩) 0 l1 →
 ∃ x3, w5.cell? ⟨b2, 0, none⟩ = some (.int .i64 x3) ∧
 ∀ b4 w6, b4 = w5.heap.size → w6 = w5.alloc (.cells #[.int .i64 x3, .slice (some ⟨b3, 0, none⟩) 256 256] 64) →
 ∃ l2 l3 : List Value, (n2 + 1) * 32 ≤ 140737488355328 ∧ l2.length = n2 * 2 ∧ RdS w6 A2 l2 ∧ l3.length = 1 * 2 ∧ RdS w6 (some ⟨b4, 0, none⟩) l3 ∧ One l3 ∧ (n2 + 1 ≤ c2 → Room w6 A2 (n2 * 2) (1 * 2)) ∧
 ∀ A5 c5 w7, Appended w6 64 2 #[.int .i64 0, .slice none 0 0] A2 n2 c2 1 l2 l3 A5 c5 w7 →
 I1 A5 (n2 + 1) c5 (IntKind.i64.wrap (x1 + 1)) w7 ∧ μ1 A5 (n2 + 1) c5 (IntKind.i64.wrap (x1 + 1)) w7 < μ1 A2 n2 c2 x1 w1) ∧
 (¬ x1 < (n1 : Int) →
 Q (.slice A2 n2 c2) w1)
theorem L_8 (A1 : Option Addr) (n1 c1 : Nat) (w : World) (Q : Value → World → Prop) (h : S_8 A1 n1 c1 w Q) : Ret Tryz.prog 8 #[.slice A1 n1 c1] w Q := by
 unfold S_8 at h
 refine ret_of_wp Tryz.func8 rfl (wp_seq (qx (qbr (qz (wp_seq (qx (qbr (qz (wp_seq (wp_seq (qx (qbr (qz (wp_block ?_))))))))))))))
 obtain ⟨I1, μ1, hI1, hB1⟩ := h
 refine wp_loop_st (σ := (Option Addr) × Nat × Nat × Int) (fun s a => ∃ u1 : Nat → Value, a = ⟨#[.slice A1 n1 c1, undef, .slice none 0 0, .slice s.1 s.2.1 s.2.2.1, undef, u1 5, u1 6, .slice A1 n1 c1, .int .i64 (n1 : Int), .int .i64 s.2.2.2, u1 10, u1 11, u1 12, u1 13, u1 14, u1 15, u1 16, u1 17, u1 18, u1 19, u1 20, u1 21, u1 22, u1 23, u1 24, u1 25, undef], []⟩) (fun s w => I1 s.1 s.2.1 s.2.2.1 s.2.2.2 w) (fun s w => μ1 s.1 s.2.1 s.2.2.1 s.2.2.2 w) (none, 0, 0, 0) (qaa) hI1 ?_
 rintro ⟨A2, n2, c2, x1⟩ a w1 ⟨u1, rfl⟩ hI1
 have h := hB1 A2 n2 c2 x1 w1 hI1
 refine wp_seq (qx (qbr (qz (wp_seq (wp_cond_split (t := (decide (x1 < (n1 : Int)))) (by kernel_rfl) (fun hb => ?_) (fun hb => ?_))))))
 ·replace h := h.1 (of_decide_eq_true hb)
  refine wp_skip (qz (wp_seq (wp_block (wp_seq (qx ?_)))))
  obtain ⟨b1, o1, rfl, h⟩ := h
  obtain ⟨h1, h2, h⟩ := h
  refine qq (qan (k := .i64) (j := x1) (b := b1) (off := o1) (n := n1) (c := c1) rfl Tryz.underlying29 Tryz.sizeOf64 h1 h2 ?_)
  obtain ⟨x2, A3, n3, c3, hx, h⟩ := h
  refine qq (qaq (cs := ([.int .i64 x2, .slice A3 n3 c3] : List Value)) rfl Tryz.isAgg64 Tryz.sizeOf64 (by simp []) hx ?_)
  refine qq (qac rfl Tryz.zeroValue64 ?_)
  intro b2 w2 e1 e2; replace h := h b2 w2 e1 e2
  obtain ⟨hw, h⟩ := h
  refine qq (qbd (cs := ([.int .i64 x2, .slice A3 n3 c3] : List Value)) rfl Tryz.sizeOf64 rfl (qab) hw ?_)
  intro w3 e1; replace h := h w3 e1
  refine qo (qz (wp_seq (qx ?_)))
  obtain ⟨h1, h2, h3, h⟩ := h
  refine qq (qas (kl := .i64) (kc := .i64) (l := 256) (c := 256) rfl Tryz.underlying62 Tryz.typeInfo5 rfl h1 h2 (by decide) h3 ?_)
  intro b3 w4 e1 e2; replace h := h b3 w4 e1 e2
  refine qbr (qz (wp_seq (qx (qbt 2 ?_))))
  obtain ⟨A4, n4, c4, hx, h⟩ := h
  refine qq (qap (v := .slice A4 n4 c4) rfl Tryz.isAgg62 hx ?_)
  obtain ⟨l1, h1, h2, h3, h4, h⟩ := h
  refine qq (qal (A := (some ⟨b3, 0, none⟩)) (n := 256) (c := 256) (B := A4) (m := n4) (c2 := c4) (cs := l1) rfl Tryz.underlying62 Tryz.typeInfo5 h1 h2 h3 h4 ?_)
  intro w5 e1; replace h := h w5 e1
  refine qo (qz (qx (qbt 2 ?_)))
  obtain ⟨x3, hx, h⟩ := h
  refine qq (qap (v := .int .i64 x3) rfl Tryz.isAgg3 hx ?_)
  refine qbt 2 (qq (qag (cs := ([.int .i64 x3, .slice (some ⟨b3, 0, none⟩) 256 256] : List Value)) rfl Tryz.underlying29 Tryz.sizeOf64 Tryz.zeroValue64 (by kernel_rfl) (by decide) (by decide) ?_))
  intro b4 w6 e1 e2; replace h := h b4 w6 e1 e2
  obtain ⟨l2, l3, h1, h2, h3, h4, h5, h6, h7, h⟩ := h
  refine qq (qad (A := A2) (n := n2) (c := c2) (B := (some ⟨b4, 0, none⟩)) (m := 1) (c2 := 1) (olds := l2) (news := l3) rfl Tryz.underlying29 Tryz.underlying29 Tryz.typeInfo64 rfl (by decide) h1 h2 h3 h4 h5 h6 h7 ?_)
  intro A5 c5 w7 e1; replace h := h A5 c5 w7 e1
  refine qbr (qu (qz (qx (qbr (qz ?_)))))
  exact ⟨(A5, (n2 + 1), c5, (IntKind.i64.wrap (x1 + 1))), qaa, h.1, h.2⟩
 ·replace h := h.2 (of_decide_eq_false hb)
  refine wp_exit (qr (qr (block_exit_eq (qz (wp_seq (qx (qbr (qz (wp_ret ?_)))))))))
  exact qbh (v := .slice A2 n2 c2) h
def S_9 (p1 : Option Addr) (d1 : List Value) (x1 : Int) (A1 : Option Addr) (n1 c1 : Nat) (x2 x3 : Int) (d2 : List Value) (A2 : Option Addr) (n2 c2 : Nat) (A3 : Option Addr) (n3 c3 : Nat) (w : World) (Q : Value → World → Prop) : Prop :=
 ∀ b1 w1, b1 = w.heap.size → w1 = w.alloc (.cells d1.toArray 22) →
 ∀ b2 w2, b2 = w1.heap.size → w2 = w1.alloc (.cells #[.slice A1 n1 c1] 32) →
 ∀ b3 w3, b3 = w2.heap.size → w3 = w2.alloc (.cells (([.int .i64 x2, .int .u32 x3] : List Value) ++ d2).toArray 46) →
 ∀ b4 w4, b4 = w3.heap.size → w4 = w3.alloc (.cells (([.int .i64 0, .int .u32 0] : List Value) ++ (List.replicate 32 (.int .u8 0 : Value))).toArray 46) →
 ∃ A4 n4 c4, w4.rangeAt b2 0 ([.slice A4 n4 c4] : List Value) ∧
 Ret Tryz.prog 16 #[.agg #[.slice A4 n4 c4], .slice A2 n2 c2, .slice A3 n3 c3] w4 fun r1 w5 => ∃ q1, r1 = .bool q1 ∧
 (q1 = false →
 w5.there b4 0 34 ∧
 ∀ w6, w6 = w5.setCells b4 0 (([.int .i64 0, .int .u32 0] : List Value) ++ (List.replicate 32 (.int .u8 0 : Value))) →
 ∃ (x4 : Int) (x5 : Int) (d3 : List Value), d3.length = 32 ∧ w6.rangeAt b4 0 (([.int .i64 x4, .int .u32 x5] : List Value) ++ d3) ∧ Q (.tuple #[.slice none 0 0, .slice none 0 0, .agg (([.int .i64 x4, .int .u32 x5] : List Value) ++ d3).toArray, .int .i64 1]) w6) ∧
 (q1 = true →
 ∃ (x6 : Int) (x7 : Int) (d4 : List Value), d4.length = 32 ∧ w5.rangeAt b3 0 (([.int .i64 x6, .int .u32 x7] : List Value) ++ d4) ∧
 Ret Tryz.prog 17 #[.agg (([.int .i64 x6, .int .u32 x7] : List Value) ++ d4).toArray] w5 fun r2 w7 => ∃ q2, r2 = .bool q2 ∧
 (q2 = false →
 w7.there b4 0 34 ∧
 ∀ w8, w8 = w7.setCells b4 0 (([.int .i64 0, .int .u32 0] : List Value) ++ (List.replicate 32 (.int .u8 0 : Value))) →
 ∃ (x8 : Int) (x9 : Int) (d5 : List Value), d5.length = 32 ∧ w8.rangeAt b4 0 (([.int .i64 x8, .int .u32 x9] : List Value) ++ d5) ∧ Q (.tuple #[.slice none 0 0, .slice none 0 0, .agg (([.int .i64 x8, .int .u32 x9] : List Value) ++ d5).toArray, .int .i64 1]) w8) ∧
 (q2 = true →
 ∃ (d6 : List Value), d6.length = 32 ∧ w7.rangeAt b1 0 d6 ∧
 ∃ A5 n5 c5, w7.rangeAt b2 0 ([.slice A5 n5 c5] : List Value) ∧
 ∃ (x10 : Int) (x11 : Int) (d7 : List Value), d7.length = 32 ∧ w7.rangeAt b3 0 (([.int .i64 x10, .int .u32 x11] : List Value) ++ d7) ∧
 ∀ b5 w9, b5 = w7.heap.size → w9 = w7.alloc (.map #[] 0) →
 ∀ b6 w10, b6 = w9.heap.size → w10 = w9.alloc (.cells (([.pointer p1] : List Value) ++ d6 ++ ([.int .u32 x1, .slice A5 n5 c5, .int .i64 x10, .int .u32 x11] : List Value) ++ d7 ++ ([.map (some b5), .slice none 0 0] : List Value)).toArray 78) →
 ∀ w11, w11 = w10.drew →
 ∃ A6 n6 c6, w10.rangeAt b2 0 ([.slice A6 n6 c6] : List Value) ∧
 Ret Tryz.prog 18 #[.slice A3 n3 c3] w11 fun r3 w12 => ∃ A7 n7 c7, r3 = .slice A7 n7 c7 ∧
 Keep w10 w12 ∧
 Ret Tryz.prog 15 #[.agg #[.slice A6 n6 c6], .slice A7 n7 c7] w12 fun r4 w13 => ∃ A8 n8 c8, r4 = .slice A8 n8 c8 ∧
 ∃ (I1 : Int → World → Prop) (μ1 : Int → World → Nat), I1 0 w13 ∧
 ∀ x12 w14, I1 x12 w14 →
 (x12 < (n8 : Int) →
 ∃ b7 o1, A8 = some ⟨b7, o1, none⟩ ∧ (0 : Int) ≤ x12 ∧ x12 < (n8 : Int) ∧
 ∃ x13, w14.cell? ⟨b7, (o1 + (x12).toNat * 1), none⟩ = some (.int .i64 x13) ∧
 ∀ w15, w15 = w14.drew →
 ∃ m1, w14.cell? ⟨b6, 69, none⟩ = some (.map m1) ∧
 Ret Tryz.prog 19 #[.slice A2 n2 c2, .int .i64 x13] w15 fun r5 w16 => ∃ A9 n9 c9 q3, r5 = .tuple #[.slice A9 n9 c9, .bool q3] ∧
 Keep w14 w16 ∧
 ∃ b8 n10 f1, m1 = some b8 ∧ Mi Tryz.prog 3 w16 b8 n10 f1 ∧ InI x13 ∧ n10 < maxLen ∧
 ∀ w17, Mi Tryz.prog 3 w17 b8 (n10 + 1) (fSet f1 x13 (.slice A9 n9 c9)) → Mod (fun i => i = b8) w16 w17 →
 I1 (IntKind.i64.wrap (x12 + 1)) w17 ∧ μ1 (IntKind.i64.wrap (x12 + 1)) w17 < μ1 x12 w14) ∧
 (¬ x12 < (n8 : Int) →
 ∃ (I2 : Int → World → Prop) (μ2 : Int → World → Nat), I2 0 w14 ∧
 ∀ x14 w18, I2 x14 w18 →
 (x14 < (n3 : Int) →
 ∃ b9 o2, A3 = some ⟨b9, o2, none⟩ ∧ (0 : Int) ≤ x14 ∧ x14 < (n3 : Int) ∧
 ∃ x15 A10 n11 c10, w18.rangeAt b9 (o2 + (x14).toNat * 2) ([.int .i64 x15, .slice A10 n11 c10] : List Value) ∧
 ∀ b10 w19, b10 = w18.heap.size → w19 = w18.alloc (.cells #[.int .i64 0, .slice none 0 0] 68) →
 w19.there b10 0 2 ∧
 ∀ w20, w20 = w19.setCells b10 0 ([.int .i64 x15, .slice A10 n11 c10] : List Value) →
 ∃ x16, w20.cell? ⟨b10, 0, none⟩ = some (.int .i64 x16) ∧
 ∃ A11 n12 c11, w20.cell? ⟨b10, 1, none⟩ = some (.slice A11 n12 c11) ∧
 Ret Tryz.prog 20 #[.pointer (some ⟨b6, 0, none⟩), .int .i64 x16, .slice A11 n12 c11] w20 fun r6 w21 => r6 = .tuple #[] ∧
 I2 (IntKind.i64.wrap (x14 + 1)) w21 ∧ μ2 (IntKind.i64.wrap (x14 + 1)) w21 < μ2 x14 w18) ∧
 (¬ x14 < (n3 : Int) →
 ∃ (I3 : (Option Addr) → Nat → Nat → Int → World → Prop) (μ3 : (Option Addr) → Nat → Nat → Int → World → Nat), I3 none 0 0 0 w18 ∧
 ∀ A12 n13 c12 x17 w22, I3 A12 n13 c12 x17 w22 →
 (x17 < (n8 : Int) →
 ∃ b11 o3, A8 = some ⟨b11, o3, none⟩ ∧ (0 : Int) ≤ x17 ∧ x17 < (n8 : Int) ∧
 ∃ x18, w22.cell? ⟨b11, (o3 + (x17).toNat * 1), none⟩ = some (.int .i64 x18) ∧
 ∃ m2, w22.cell? ⟨b6, 69, none⟩ = some (.map m2) ∧
 ∃ b12 n14 f2, m2 = some b12 ∧ Mi Tryz.prog 3 w22 b12 n14 f2 ∧ InI x18 ∧ ∃ A13 n15 c13, (f2 x18).getD (.slice none 0 0) = .slice A13 n15 c13 ∧
 Ret Tryz.prog 21 #[.slice A13 n15 c13] w22 fun r7 w23 => ∃ A14 n16 c14, r7 = .slice A14 n16 c14 ∧
 ∀ b13 w24, b13 = w23.heap.size → w24 = w23.alloc (.cells #[.int .i64 x18, .slice A14 n16 c14] 67) →
 ∃ l1 l2 : List Value, (n13 + 1) * 32 ≤ 140737488355328 ∧ l1.length = n13 * 2 ∧ RdS w24 A12 l1 ∧ l2.length = 1 * 2 ∧ RdS w24 (some ⟨b13, 0, none⟩) l2 ∧ One l2 ∧ (n13 + 1 ≤ c12 → Room w24 A12 (n13 * 2) (1 * 2)) ∧
 ∀ A15 c15 w25, Appended w24 67 2 #[.int .i64 0, .slice none 0 0] A12 n13 c12 1 l1 l2 A15 c15 w25 →
 ∃ m3, w25.cell? ⟨b6, 69, none⟩ = some (.map m3) ∧
 ∃ b14 n17 f3, m3 = some b14 ∧ Mi Tryz.prog 3 w25 b14 n17 f3 ∧ InI x18 ∧ ∃ A16 n18 c16, (f3 x18).getD (.slice none 0 0) = .slice A16 n18 c16 ∧
 Ret Tryz.prog 22 #[.slice A16 n18 c16] w25 fun r8 w26 => ∃ A17 n19 c17 x19, r8 = .tuple #[.slice A17 n19 c17, .int .i64 x19] ∧
 Ret Tryz.prog 20 #[.pointer (some ⟨b6, 0, none⟩), .int .i64 x18, .slice A17 n19 c17] w26 fun r9 w27 => r9 = .tuple #[] ∧
 I3 A15 (n13 + 1) c15 (IntKind.i64.wrap (x17 + 1)) w27 ∧ μ3 A15 (n13 + 1) c15 (IntKind.i64.wrap (x17 + 1)) w27 < μ3 A12 n13 c12 x17 w22) ∧
 (¬ x17 < (n8 : Int) →
 ∀ w28, w28 = w22.drew →
 ∃ A18 n20 c18, w22.cell? ⟨b6, 70, none⟩ = some (.slice A18 n20 c18) ∧
 ∃ (x20 : Int) (x21 : Int) (d8 : List Value), d8.length = 32 ∧ w22.rangeAt b6 35 (([.int .i64 x20, .int .u32 x21] : List Value) ++ d8) ∧
 (([.int .i64 x20, .int .u32 x21] : List Value) ++ d8).length = 34 ∧ One (([.int .i64 x20, .int .u32 x21] : List Value) ++ d8) ∧ w28.there b4 0 34 ∧
 ∀ w29, w29 = w28.setCells b4 0 (([.int .i64 x20, .int .u32 x21] : List Value) ++ d8) →
 ∃ (x22 : Int) (x23 : Int) (d9 : List Value), d9.length = 32 ∧ w29.rangeAt b4 0 (([.int .i64 x22, .int .u32 x23] : List Value) ++ d9) ∧ Q (.tuple #[.slice A18 n20 c18, .slice A12 n13 c12, .agg (([.int .i64 x22, .int .u32 x23] : List Value) ++ d9).toArray, .int .i64 0]) w29)))))
theorem L_9 (p1 : Option Addr) (d1 : List Value) (x1 : Int) (A1 : Option Addr) (n1 c1 : Nat) (x2 x3 : Int) (d2 : List Value) (A2 : Option Addr) (n2 c2 : Nat) (A3 : Option Addr) (n3 c3 : Nat) (w : World) (Q : Value → World → Prop) (hp0 : d1.length = 32) (hp1 : d2.length = 32) (h : S_9 p1 d1 x1 A1 n1 c1 x2 x3 d2 A2 n2 c2 A3 n3 c3 w Q) : Ret Tryz.prog 9 #[.pointer p1, .agg d1.toArray, .int .u32 x1, .agg #[.slice A1 n1 c1], .agg (([.int .i64 x2, .int .u32 x3] : List Value) ++ d2).toArray, .slice A2 n2 c2, .slice A3 n3 c3] w Q := by
 unfold S_9 at h
 refine ret_of_wp Tryz.func9 rfl (wp_seq (qx (qq (qaf (v := .agg d1.toArray) rfl ?_))))
 intro b1 w1 e1 e2; replace h := h b1 w1 e1 e2
 refine qq (qaf (v := .agg #[.slice A1 n1 c1]) rfl ?_)
 intro b2 w2 e1 e2; replace h := h b2 w2 e1 e2
 refine qq (qaf (v := .agg (([.int .i64 x2, .int .u32 x3] : List Value) ++ d2).toArray) rfl ?_)
 intro b3 w3 e1 e2; replace h := h b3 w3 e1 e2
 refine qbt 2 (qq (qac rfl Tryz.zeroValue46 ?_))
 intro b4 w4 e1 e2; replace h := h b4 w4 e1 e2
 refine qbr (qz (wp_seq (wp_seq (qx ?_))))
 obtain ⟨A4, n4, c4, hx, h⟩ := h
 refine qq (qaq (cs := ([.slice A4 n4 c4] : List Value)) rfl Tryz.isAgg32 Tryz.sizeOf32 (by simp []) hx ?_)
 refine qbt 2 (qq (qai (args := #[.agg #[.slice A4 n4 c4], .slice A2 n2 c2, .slice A3 n3 c3]) rfl Tryz.call16 (Ret.mono h ?_)))
 clear h; rintro r1 w5 ⟨q1, rfl, h⟩
 refine qbt 2 (wl_split (e := (!q1)) ?_ ?_)
 ·intro hb; refine qbs 34 (e := (!q1)) (b := true) hb ?_
  replace h := h.1 ((not_flip hb))
  refine qbr (qz (wp_cond_true (by kernel_rfl) (wp_seq (qx (qbt 3 ?_)))))
  obtain ⟨hw, h⟩ := h
  refine qq (qbd (cs := (([.int .i64 0, .int .u32 0] : List Value) ++ (List.replicate 32 (.int .u8 0 : Value)))) rfl Tryz.sizeOf46 rfl (qab) hw ?_)
  intro w6 e1; replace h := h w6 e1
  refine qbr (qz (wp_ret (qs ?_)))
  obtain ⟨x4, x5, d3, hl0_0, hx0, h⟩ := h
  exact qbi (vs := [.slice none 0 0, .slice none 0 0, .agg (([.int .i64 x4, .int .u32 x5] : List Value) ++ d3).toArray, .int .i64 1]) (v := .tuple #[.slice none 0 0, .slice none 0 0, .agg (([.int .i64 x4, .int .u32 x5] : List Value) ++ d3).toArray, .int .i64 1]) Tryz.results9 ⟨qbf, qbf, ⟨b4, 0, by kernel_rfl, run_loadN Tryz.isAgg46 Tryz.sizeOf46 (by simp [hl0_0]) hx0⟩, qbf, trivial⟩ h
 ·intro hb; refine qbs 34 (e := (!q1)) (b := false) hb ?_
  replace h := h.2 ((not_flip hb))
  obtain ⟨x6, x7, d4, hl0, hx, h⟩ := h
  refine qq (qaq (cs := (([.int .i64 x6, .int .u32 x7] : List Value) ++ d4)) rfl Tryz.isAgg46 Tryz.sizeOf46 (by simp [hl0]) hx ?_)
  refine qq (qai (args := #[.agg (([.int .i64 x6, .int .u32 x7] : List Value) ++ d4).toArray]) rfl Tryz.call17 (Ret.mono h ?_))
  clear h; rintro r2 w7 ⟨q2, rfl, h⟩
  refine qbr (qz (wp_cond_split (t := (!q2)) (by kernel_rfl) (fun hb => ?_) (fun hb => ?_)))
  ·replace h := h.1 ((not_flip hb))
   refine wp_seq (qx (qbt 3 ?_))
   obtain ⟨hw, h⟩ := h
   refine qq (qbd (cs := (([.int .i64 0, .int .u32 0] : List Value) ++ (List.replicate 32 (.int .u8 0 : Value)))) rfl Tryz.sizeOf46 rfl (qab) hw ?_)
   intro w8 e1; replace h := h w8 e1
   refine qbr (qz (wp_ret (qs ?_)))
   obtain ⟨x8, x9, d5, hl0_0, hx0, h⟩ := h
   exact qbi (vs := [.slice none 0 0, .slice none 0 0, .agg (([.int .i64 x8, .int .u32 x9] : List Value) ++ d5).toArray, .int .i64 1]) (v := .tuple #[.slice none 0 0, .slice none 0 0, .agg (([.int .i64 x8, .int .u32 x9] : List Value) ++ d5).toArray, .int .i64 1]) Tryz.results9 ⟨qbf, qbf, ⟨b4, 0, by kernel_rfl, run_loadN Tryz.isAgg46 Tryz.sizeOf46 (by simp [hl0_0]) hx0⟩, qbf, trivial⟩ h
  ·replace h := h.2 ((not_flip hb))
   refine wp_skip (qz (wp_seq (qx (qbt 1 ?_))))
   obtain ⟨d6, hl0, hx, h⟩ := h
   refine qq (qaq (cs := d6) rfl Tryz.isAgg22 Tryz.sizeOf22 (by simp [hl0]) hx ?_)
   refine qbt 1 ?_
   obtain ⟨A5, n5, c5, hx, h⟩ := h
   refine qq (qaq (cs := ([.slice A5 n5 c5] : List Value)) rfl Tryz.isAgg32 Tryz.sizeOf32 (by simp []) hx ?_)
   obtain ⟨x10, x11, d7, hl0, hx, h⟩ := h
   refine qq (qaq (cs := (([.int .i64 x10, .int .u32 x11] : List Value) ++ d7)) rfl Tryz.isAgg46 Tryz.sizeOf46 (by simp [hl0]) hx ?_)
   refine qq (qat rfl ?_)
   intro b5 w9 e1 e2; replace h := h b5 w9 e1 e2
   refine qq (qaw (v := .agg (([.pointer p1] : List Value) ++ d6 ++ ([.int .u32 x1, .slice A5 n5 c5, .int .i64 x10, .int .u32 x11] : List Value) ++ d7 ++ ([.map (some b5), .slice none 0 0] : List Value)).toArray) (by obtain ⟨f0, rfl⟩ := exL (l := d6) (n := 32) (by assumption); obtain ⟨f1, rfl⟩ := exL (l := d7) (n := 32) (by assumption); kernel_rfl) ?_)
   refine qq (qaf (v := .agg (([.pointer p1] : List Value) ++ d6 ++ ([.int .u32 x1, .slice A5 n5 c5, .int .i64 x10, .int .u32 x11] : List Value) ++ d7 ++ ([.map (some b5), .slice none 0 0] : List Value)).toArray) rfl ?_)
   intro b6 w10 e1 e2; replace h := h b6 w10 e1 e2
   refine qbr (qz (wp_seq (qbj (Keep w10) [3] ?_)))
   intro w11 e1; have hK1 := keep_drew e1; replace h := h w11 e1
   obtain ⟨A6, n6, c6, hx, h⟩ := h
   refine qbn 0 rfl (qbx (cs := ([.slice A6 n6 c6] : List Value)) rfl Tryz.isAgg32 Tryz.sizeOf32 (by simp []) (fun _ hk => keep_range hk hx)) hK1 ?_
   refine qbo 1 rfl (qbz (v := .slice A3 n3 c3)) (qbm 2 rfl (qai (args := #[.slice A3 n3 c3]) rfl Tryz.call18 (Ret.mono h ?_)))
   clear h; rintro r3 w12 ⟨A7, n7, c7, rfl, h⟩
   obtain ⟨hK2, h⟩ := h
   refine ⟨fun _ _ => hK2, ?_⟩
   refine qbm 3 rfl (qai (args := #[.agg #[.slice A6 n6 c6], .slice A7 n7 c7]) rfl Tryz.call15 (Ret.mono h ?_))
   clear h; rintro r4 w13 ⟨A8, n8, c8, rfl, h⟩
   refine ⟨fun hh => absurd hh (by decide), ?_⟩
   refine qbo 4 rfl (qbz (v := .slice A8 n8 c8)) (qbk (qz (wp_seq (wp_seq (qx (qbr (qz (wp_block ?_))))))))
   obtain ⟨I1, μ1, hI1, hB1⟩ := h
   refine wp_loop_st (σ := Int) (fun s a => ∃ u1 : Nat → Value, a = ⟨#[.pointer p1, .agg d1.toArray, .int .u32 x1, .agg #[.slice A1 n1 c1], .agg (([.int .i64 x2, .int .u32 x3] : List Value) ++ d2).toArray, .slice A2 n2 c2, .slice A3 n3 c3, undef, .pointer (some ⟨b1, 0, none⟩), undef, .pointer (some ⟨b2, 0, none⟩), .pointer (some ⟨b3, 0, none⟩), undef, undef, .slice none 0 0, .slice none 0 0, .pointer (some ⟨b4, 0, none⟩), .int .i64 0, .pointer (some ⟨b6, 0, none⟩), .slice A8 n8 c8, undef, u1 21, undef, undef, undef, undef, undef, undef, undef, .agg #[.slice A4 n4 c4], .slice A2 n2 c2, .slice A3 n3 c3, .bool q1, .bool (!q1), .bool false, .agg (([.int .i64 x6, .int .u32 x7] : List Value) ++ d4).toArray, .bool q2, .bool (!q2), .bool (!q2), undef, .pointer p1, .agg d6.toArray, .int .u32 x1, .agg #[.slice A5 n5 c5], .agg (([.int .i64 x10, .int .u32 x11] : List Value) ++ d7).toArray, .map (some b5), .agg (([.pointer p1] : List Value) ++ d6 ++ ([.int .u32 x1, .slice A5 n5 c5, .int .i64 x10, .int .u32 x11] : List Value) ++ d7 ++ ([.map (some b5), .slice none 0 0] : List Value)).toArray, .pointer (some ⟨b6, 0, none⟩), .agg #[.slice A6 n6 c6], .slice A3 n3 c3, .slice A7 n7 c7, .slice A8 n8 c8, .slice A8 n8 c8, .int .i64 (n8 : Int), .int .i64 s, u1 55, u1 56, u1 57, u1 58, u1 59, u1 60, u1 61, u1 62, u1 63, u1 64, u1 65, u1 66, u1 67, u1 68, u1 69, undef, undef, undef, undef, undef, undef, undef, undef, undef, undef, undef, undef, undef, undef, undef, undef, undef, undef, undef, undef, undef, undef, undef, undef, undef, undef, undef, undef, undef, undef, undef, undef, undef, undef, undef, undef, undef, undef, undef, undef, undef, undef, undef, undef, undef, undef, undef, undef, undef, undef, undef, undef, undef, undef, undef], []⟩) (fun s w => I1 s w) (fun s w => μ1 s w) (0) (qaa) hI1 ?_
   rintro x12 a w14 ⟨u1, rfl⟩ hI1
   have h := hB1 x12 w14 hI1
   refine wp_seq (qx (qbr (qz (wp_seq (wp_cond_split (t := (decide (x12 < (n8 : Int)))) (by kernel_rfl) (fun hb => ?_) (fun hb => ?_))))))
   ·replace h := h.1 (of_decide_eq_true hb)
    refine wp_skip (qz (wp_seq (wp_block (wp_seq (qx ?_)))))
    obtain ⟨b7, o1, rfl, h⟩ := h
    obtain ⟨h1, h2, h⟩ := h
    refine qq (qan (k := .i64) (j := x12) (b := b7) (off := o1) (n := n8) (c := c8) rfl Tryz.underlying30 Tryz.sizeOf3 h1 h2 ?_)
    obtain ⟨x13, hx, h⟩ := h
    refine qq (qap (v := .int .i64 x13) rfl Tryz.isAgg3 hx ?_)
    refine qbr (qz (qbj (Keep w14) [11] ?_))
    intro w15 e1; have hK3 := keep_drew e1; replace h := h w15 e1
    refine qbo 0 rfl (qbz (v := .pointer (some ⟨b6, 0, none⟩))) (qbo 1 rfl (qbz (v := .pointer (some ⟨b6, 0, none⟩))) (qbo 2 rfl (qbz (v := .pointer (some ⟨b6, 69, none⟩))) ?_))
    obtain ⟨m1, hx, h⟩ := h
    refine qbn 3 rfl (qbw (v := .map m1) rfl Tryz.isAgg76 (fun _ hk => keep_cell hk hx)) hK3 ?_
    refine qbo 4 rfl (qbz (v := .int .i64 x13)) (qbo 5 rfl (qbz (v := .slice A2 n2 c2)) (qbo 6 rfl (qbz (v := .int .i64 x13)) (qbm 7 rfl (qai (args := #[.slice A2 n2 c2, .int .i64 x13]) rfl Tryz.call19 (Ret.mono h ?_)))))
    clear h; rintro r5 w16 ⟨A9, n9, c9, q3, rfl, h⟩
    obtain ⟨hK4, h⟩ := h
    refine ⟨fun _ _ => hK4, ?_⟩
    refine qbo 8 rfl (qbz (v := .tuple #[.slice A9 n9 c9, .bool q3])) (qbo 9 rfl (qbz (v := .slice A9 n9 c9)) (qbo 10 rfl (qbz (v := .bool q3)) ?_))
    obtain ⟨b8, n10, f1, rfl, h1, h2, h3, h⟩ := h
    refine qbm 11 rfl (qbe (b := b8) (n := n10) (j := x13) (v := .slice A9 n9 c9) (f := f1) rfl Tryz.underlying76 Tryz.underlying3 h1 h2 h3 ?_)
    intro w17 e1 e2; replace h := h w17 e1 e2
    refine ⟨fun hh => absurd hh (by decide), ?_⟩
    refine qbk (qu (qz (qx (qbr (qz ?_)))))
    exact ⟨((IntKind.i64.wrap (x12 + 1))), qaa, h.1, h.2⟩
   ·replace h := h.2 (of_decide_eq_false hb)
    refine wp_exit (qr (qr (block_exit_eq (qz (wp_seq (wp_seq (qx (qbr (qz (wp_block ?_))))))))))
    obtain ⟨I2, μ2, hI2, hB2⟩ := h
    refine wp_loop_st (σ := Int) (fun s a => ∃ u2 : Nat → Value, a = ⟨#[.pointer p1, .agg d1.toArray, .int .u32 x1, .agg #[.slice A1 n1 c1], .agg (([.int .i64 x2, .int .u32 x3] : List Value) ++ d2).toArray, .slice A2 n2 c2, .slice A3 n3 c3, undef, .pointer (some ⟨b1, 0, none⟩), undef, .pointer (some ⟨b2, 0, none⟩), .pointer (some ⟨b3, 0, none⟩), undef, undef, .slice none 0 0, .slice none 0 0, .pointer (some ⟨b4, 0, none⟩), .int .i64 0, .pointer (some ⟨b6, 0, none⟩), .slice A8 n8 c8, undef, u1 21, undef, u2 23, undef, undef, undef, undef, undef, .agg #[.slice A4 n4 c4], .slice A2 n2 c2, .slice A3 n3 c3, .bool q1, .bool (!q1), .bool false, .agg (([.int .i64 x6, .int .u32 x7] : List Value) ++ d4).toArray, .bool q2, .bool (!q2), .bool (!q2), undef, .pointer p1, .agg d6.toArray, .int .u32 x1, .agg #[.slice A5 n5 c5], .agg (([.int .i64 x10, .int .u32 x11] : List Value) ++ d7).toArray, .map (some b5), .agg (([.pointer p1] : List Value) ++ d6 ++ ([.int .u32 x1, .slice A5 n5 c5, .int .i64 x10, .int .u32 x11] : List Value) ++ d7 ++ ([.map (some b5), .slice none 0 0] : List Value)).toArray, .pointer (some ⟨b6, 0, none⟩), .agg #[.slice A6 n6 c6], .slice A3 n3 c3, .slice A7 n7 c7, .slice A8 n8 c8, .slice A8 n8 c8, .int .i64 (n8 : Int), .int .i64 x12, .bool (decide (x12 < (n8 : Int))), u1 56, u1 57, u1 58, u1 59, u1 60, u1 61, u1 62, u1 63, u1 64, u1 65, u1 66, u1 67, u1 68, u1 69, .slice A3 n3 c3, .int .i64 (n3 : Int), .int .i64 s, u2 73, u2 74, u2 75, u2 76, u2 77, u2 78, u2 79, u2 80, u2 81, u2 82, undef, undef, undef, undef, undef, undef, undef, undef, undef, undef, undef, undef, undef, undef, undef, undef, undef, undef, undef, undef, undef, undef, undef, undef, undef, undef, undef, undef, undef, undef, undef, undef, undef, undef, undef, undef, undef, undef, undef, undef, undef, undef], []⟩) (fun s w => I2 s w) (fun s w => μ2 s w) (0) (qaa) hI2 ?_
    rintro x14 a w18 ⟨u2, rfl⟩ hI2
    have h := hB2 x14 w18 hI2
    refine wp_seq (qx (qbr (qz (wp_seq (wp_cond_split (t := (decide (x14 < (n3 : Int)))) (by kernel_rfl) (fun hb => ?_) (fun hb => ?_))))))
    ·replace h := h.1 (of_decide_eq_true hb)
     refine wp_skip (qz (wp_seq (wp_block (wp_seq (qx ?_)))))
     obtain ⟨b9, o2, rfl, h⟩ := h
     obtain ⟨h1, h2, h⟩ := h
     refine qq (qan (k := .i64) (j := x14) (b := b9) (off := o2) (n := n3) (c := c3) rfl Tryz.underlying50 Tryz.sizeOf68 h1 h2 ?_)
     obtain ⟨x15, A10, n11, c10, hx, h⟩ := h
     refine qq (qaq (cs := ([.int .i64 x15, .slice A10 n11 c10] : List Value)) rfl Tryz.isAgg68 Tryz.sizeOf68 (by simp []) hx ?_)
     refine qq (qac rfl Tryz.zeroValue68 ?_)
     intro b10 w19 e1 e2; replace h := h b10 w19 e1 e2
     obtain ⟨hw, h⟩ := h
     refine qq (qbd (cs := ([.int .i64 x15, .slice A10 n11 c10] : List Value)) rfl Tryz.sizeOf68 rfl (qab) hw ?_)
     intro w20 e1; replace h := h w20 e1
     refine qo (qz (qx (qbt 2 ?_)))
     obtain ⟨x16, hx, h⟩ := h
     refine qq (qap (v := .int .i64 x16) rfl Tryz.isAgg3 hx ?_)
     refine qbt 1 ?_
     obtain ⟨A11, n12, c11, hx, h⟩ := h
     refine qq (qap (v := .slice A11 n12 c11) rfl Tryz.isAgg62 hx ?_)
     refine qq (qai (args := #[.pointer (some ⟨b6, 0, none⟩), .int .i64 x16, .slice A11 n12 c11]) rfl Tryz.call20 (Ret.mono h ?_))
     clear h; rintro r6 w21 ⟨rfl, h⟩
     refine qo (qu (qz (qx (qbr (qz ?_)))))
     exact ⟨((IntKind.i64.wrap (x14 + 1))), qaa, h.1, h.2⟩
    ·replace h := h.2 (of_decide_eq_false hb)
     refine wp_exit (qr (qr (block_exit_eq (qz (wp_seq (qx (qbr (qz (wp_seq (wp_seq (qx (qbr (qz (wp_block ?_))))))))))))))
     obtain ⟨I3, μ3, hI3, hB3⟩ := h
     refine wp_loop_st (σ := (Option Addr) × Nat × Nat × Int) (fun s a => ∃ u3 : Nat → Value, a = ⟨#[.pointer p1, .agg d1.toArray, .int .u32 x1, .agg #[.slice A1 n1 c1], .agg (([.int .i64 x2, .int .u32 x3] : List Value) ++ d2).toArray, .slice A2 n2 c2, .slice A3 n3 c3, undef, .pointer (some ⟨b1, 0, none⟩), undef, .pointer (some ⟨b2, 0, none⟩), .pointer (some ⟨b3, 0, none⟩), undef, undef, .slice none 0 0, .slice none 0 0, .pointer (some ⟨b4, 0, none⟩), .int .i64 0, .pointer (some ⟨b6, 0, none⟩), .slice A8 n8 c8, undef, u1 21, undef, u2 23, .slice s.1 s.2.1 s.2.2.1, undef, u3 26, u3 27, u3 28, .agg #[.slice A4 n4 c4], .slice A2 n2 c2, .slice A3 n3 c3, .bool q1, .bool (!q1), .bool false, .agg (([.int .i64 x6, .int .u32 x7] : List Value) ++ d4).toArray, .bool q2, .bool (!q2), .bool (!q2), undef, .pointer p1, .agg d6.toArray, .int .u32 x1, .agg #[.slice A5 n5 c5], .agg (([.int .i64 x10, .int .u32 x11] : List Value) ++ d7).toArray, .map (some b5), .agg (([.pointer p1] : List Value) ++ d6 ++ ([.int .u32 x1, .slice A5 n5 c5, .int .i64 x10, .int .u32 x11] : List Value) ++ d7 ++ ([.map (some b5), .slice none 0 0] : List Value)).toArray, .pointer (some ⟨b6, 0, none⟩), .agg #[.slice A6 n6 c6], .slice A3 n3 c3, .slice A7 n7 c7, .slice A8 n8 c8, .slice A8 n8 c8, .int .i64 (n8 : Int), .int .i64 x12, .bool (decide (x12 < (n8 : Int))), u1 56, u1 57, u1 58, u1 59, u1 60, u1 61, u1 62, u1 63, u1 64, u1 65, u1 66, u1 67, u1 68, u1 69, .slice A3 n3 c3, .int .i64 (n3 : Int), .int .i64 x14, .bool (decide (x14 < (n3 : Int))), u2 74, u2 75, u2 76, u2 77, u2 78, u2 79, u2 80, u2 81, u2 82, .slice A8 n8 c8, .int .i64 (n8 : Int), .int .i64 s.2.2.2, u3 86, u3 87, u3 88, u3 89, u3 90, u3 91, u3 92, u3 93, u3 94, u3 95, u3 96, u3 97, u3 98, u3 99, u3 100, u3 101, u3 102, u3 103, u3 104, u3 105, u3 106, u3 107, u3 108, u3 109, u3 110, u3 111, u3 112, u3 113, u3 114, u3 115, undef, undef, undef, undef, undef, undef, undef, undef, undef], []⟩) (fun s w => I3 s.1 s.2.1 s.2.2.1 s.2.2.2 w) (fun s w => μ3 s.1 s.2.1 s.2.2.1 s.2.2.2 w) (none, 0, 0, 0) (qaa) hI3 ?_
     rintro ⟨A12, n13, c12, x17⟩ a w22 ⟨u3, rfl⟩ hI3
     have h := hB3 A12 n13 c12 x17 w22 hI3
     refine wp_seq (qx (qbr (qz (wp_seq (wp_cond_split (t := (decide (x17 < (n8 : Int)))) (by kernel_rfl) (fun hb => ?_) (fun hb => ?_))))))
     ·replace h := h.1 (of_decide_eq_true hb)
      refine wp_skip (qz (wp_seq (wp_block (wp_seq (qx ?_)))))
      obtain ⟨b11, o3, rfl, h⟩ := h
      obtain ⟨h1, h2, h⟩ := h
      refine qq (qan (k := .i64) (j := x17) (b := b11) (off := o3) (n := n8) (c := c8) rfl Tryz.underlying30 Tryz.sizeOf3 h1 h2 ?_)
      obtain ⟨x18, hx, h⟩ := h
      refine qq (qap (v := .int .i64 x18) rfl Tryz.isAgg3 hx ?_)
      refine qbr (qz (wp_seq (qx (qbt 5 ?_))))
      obtain ⟨m2, hx, h⟩ := h
      refine qq (qap (v := .map m2) rfl Tryz.isAgg76 hx ?_)
      refine qbt 1 ?_
      obtain ⟨b12, n14, f2, rfl, h1, h2, A13, n15, c13, h3, h⟩ := h
      refine qq (qar (b := b12) (n := n14) (j := x18) (z := .slice none 0 0) (v := .slice A13 n15 c13) (f := f2) rfl Tryz.underlying76 Tryz.underlying3 Tryz.zeroValue65 h1 h2 h3 ?_)
      refine qq (qai (args := #[.slice A13 n15 c13]) rfl Tryz.call21 (Ret.mono h ?_))
      clear h; rintro r7 w23 ⟨A14, n16, c14, rfl, h⟩
      refine qbt 1 (qq (qag (cs := ([.int .i64 x18, .slice A14 n16 c14] : List Value)) rfl Tryz.underlying45 Tryz.sizeOf67 Tryz.zeroValue67 (by kernel_rfl) (by decide) (by decide) ?_))
      intro b13 w24 e1 e2; replace h := h b13 w24 e1 e2
      obtain ⟨l1, l2, h1, h2, h3, h4, h5, h6, h7, h⟩ := h
      refine qq (qad (A := A12) (n := n13) (c := c12) (B := (some ⟨b13, 0, none⟩)) (m := 1) (c2 := 1) (olds := l1) (news := l2) rfl Tryz.underlying45 Tryz.underlying45 Tryz.typeInfo67 rfl (by decide) h1 h2 h3 h4 h5 h6 h7 ?_)
      intro A15 c15 w25 e1; replace h := h A15 c15 w25 e1
      refine qbr (qz (wp_seq (qx (qbt 3 ?_))))
      obtain ⟨m3, hx, h⟩ := h
      refine qq (qap (v := .map m3) rfl Tryz.isAgg76 hx ?_)
      refine qbt 1 ?_
      obtain ⟨b14, n17, f3, rfl, h1, h2, A16, n18, c16, h3, h⟩ := h
      refine qq (qar (b := b14) (n := n17) (j := x18) (z := .slice none 0 0) (v := .slice A16 n18 c16) (f := f3) rfl Tryz.underlying76 Tryz.underlying3 Tryz.zeroValue65 h1 h2 h3 ?_)
      refine qq (qai (args := #[.slice A16 n18 c16]) rfl Tryz.call22 (Ret.mono h ?_))
      clear h; rintro r8 w26 ⟨A17, n19, c17, x19, rfl, h⟩
      refine qbr (qz (qx (qbt 3 (qq (qai (args := #[.pointer (some ⟨b6, 0, none⟩), .int .i64 x18, .slice A17 n19 c17]) rfl Tryz.call20 (Ret.mono h ?_))))))
      clear h; rintro r9 w27 ⟨rfl, h⟩
      refine qo (qu (qz (qx (qbr (qz ?_)))))
      exact ⟨(A15, (n13 + 1), c15, (IntKind.i64.wrap (x17 + 1))), qaa, h.1, h.2⟩
     ·replace h := h.2 (of_decide_eq_false hb)
      refine wp_exit (qr (qr (block_exit_eq (qz (wp_seq (qbj (Keep w22) [11] ?_))))))
      intro w28 e1; have hK5 := keep_drew e1; replace h := h w28 e1
      refine qbo 0 rfl (qbz (v := .pointer (some ⟨b6, 0, none⟩))) (qbo 1 rfl (qbz (v := .pointer (some ⟨b6, 0, none⟩))) (qbo 2 rfl (qbz (v := .pointer (some ⟨b6, 70, none⟩))) ?_))
      obtain ⟨A18, n20, c18, hx, h⟩ := h
      refine qbn 3 rfl (qbw (v := .slice A18 n20 c18) rfl Tryz.isAgg44 (fun _ hk => keep_cell hk hx)) hK5 ?_
      refine qbo 4 rfl (qbz (v := .slice A12 n13 c12)) (qbo 5 rfl (qbz (v := .pointer (some ⟨b6, 0, none⟩))) (qbo 6 rfl (qbz (v := .pointer (some ⟨b6, 0, none⟩))) (qbo 7 rfl (qbz (v := .pointer (some ⟨b6, 35, none⟩))) ?_)))
      obtain ⟨x20, x21, d8, hl0, hx, h⟩ := h
      refine qbn 8 rfl (qbx (cs := (([.int .i64 x20, .int .u32 x21] : List Value) ++ d8)) rfl Tryz.isAgg46 Tryz.sizeOf46 (by simp [hl0]) (fun _ hk => keep_range hk hx)) hK5 ?_
      refine qbo 9 rfl (qbz (v := .slice A18 n20 c18)) (qbo 10 rfl (qbz (v := .slice A12 n13 c12)) ?_)
      obtain ⟨hl, h1, hw, h⟩ := h
      refine qbm 11 rfl (qbd (cs := (([.int .i64 x20, .int .u32 x21] : List Value) ++ d8)) rfl Tryz.sizeOf46 hl h1 hw ?_)
      intro w29 e1; replace h := h w29 e1
      refine ⟨fun hh => absurd hh (by decide), ?_⟩
      refine qbo 12 rfl (qbz (v := .int .i64 0)) (qbk (qz (wp_ret ?_)))
      obtain ⟨x22, x23, d9, hl0_0, hx0, h⟩ := h
      exact qbi (vs := [.slice A18 n20 c18, .slice A12 n13 c12, .agg (([.int .i64 x22, .int .u32 x23] : List Value) ++ d9).toArray, .int .i64 0]) (v := .tuple #[.slice A18 n20 c18, .slice A12 n13 c12, .agg (([.int .i64 x22, .int .u32 x23] : List Value) ++ d9).toArray, .int .i64 0]) Tryz.results9 ⟨qbf, qbf, ⟨b4, 0, by kernel_rfl, run_loadN Tryz.isAgg46 Tryz.sizeOf46 (by simp [hl0_0]) hx0⟩, qbf, trivial⟩ h
def S_10 (A1 : Option Addr) (n1 c1 : Nat) (w : World) (Q : Value → World → Prop) : Prop :=
 ∃ (I1 : (Option Addr) → Nat → Nat → Int → World → Prop) (μ1 : (Option Addr) → Nat → Nat → Int → World → Nat), I1 none 0 0 0 w ∧
 ∀ A2 n2 c2 x1 w1, I1 A2 n2 c2 x1 w1 →
 (x1 < (n1 : Int) →
 ∃ b1 o1, A1 = some ⟨b1, o1, none⟩ ∧ (0 : Int) ≤ x1 ∧ x1 < (n1 : Int) ∧
 ∃ x2 A3 n3 c3, w1.rangeAt b1 (o1 + (x1).toNat * 2) ([.int .i64 x2, .slice A3 n3 c3] : List Value) ∧
 ∀ b2 w2, b2 = w1.heap.size → w2 = w1.alloc (.cells #[.int .i64 0, .slice none 0 0] 61) →
 w2.there b2 0 2 ∧
 ∀ w3, w3 = w2.setCells b2 0 ([.int .i64 x2, .slice A3 n3 c3] : List Value) →
 ∃ x3, w3.cell? ⟨b2, 0, none⟩ = some (.int .i64 x3) ∧
 ∀ b3 w4, b3 = w3.heap.size → w4 = w3.alloc (.cells #[.int .i64 0, .slice none 0 0] 67) →
 w4.there b3 0 2 ∧
 ∀ w5, w5 = w4.setCells b3 0 ([.int .i64 x3, .slice none 0 0] : List Value) →
 ∃ A4 n4 c4, w5.cell? ⟨b2, 1, none⟩ = some (.slice A4 n4 c4) ∧
 ∃ (I2 : Int → World → Prop) (μ2 : Int → World → Nat), I2 0 w5 ∧
 ∀ x4 w6, I2 x4 w6 →
 (x4 < (n4 : Int) →
 ∃ b4 o2, A4 = some ⟨b4, o2, none⟩ ∧ (0 : Int) ≤ x4 ∧ x4 < (n4 : Int) ∧
 ∃ (x5 : Int) (x6 : Int) (d1 : List Value), d1.length = 32 ∧ w6.rangeAt b4 (o2 + (x4).toNat * 34) (([.int .i64 x5, .int .u32 x6] : List Value) ++ d1) ∧
 ∀ b5 w7, b5 = w6.heap.size → w7 = w6.alloc (.cells (([.int .i64 0, .int .u32 0] : List Value) ++ (List.replicate 32 (.int .u8 0 : Value))).toArray 25) →
 (([.int .i64 x5, .int .u32 x6] : List Value) ++ d1).length = 34 ∧ One (([.int .i64 x5, .int .u32 x6] : List Value) ++ d1) ∧ w7.there b5 0 34 ∧
 ∀ w8, w8 = w7.setCells b5 0 (([.int .i64 x5, .int .u32 x6] : List Value) ++ d1) →
 ∃ A5 n5 c5, w8.cell? ⟨b3, 1, none⟩ = some (.slice A5 n5 c5) ∧
 ∃ (x7 : Int) (x8 : Int) (d2 : List Value), d2.length = 32 ∧ w8.rangeAt b5 0 (([.int .i64 x7, .int .u32 x8] : List Value) ++ d2) ∧
 ∀ b6 w9, b6 = w8.heap.size → w9 = w8.alloc (.cells (([.int .i64 x7, .int .u32 x8] : List Value) ++ d2).toArray 46) →
 ∃ l1 l2 : List Value, (n5 + 1) * 48 ≤ 140737488355328 ∧ l1.length = n5 * 34 ∧ RdS w9 A5 l1 ∧ l2.length = 1 * 34 ∧ RdS w9 (some ⟨b6, 0, none⟩) l2 ∧ One l2 ∧ (n5 + 1 ≤ c5 → Room w9 A5 (n5 * 34) (1 * 34)) ∧
 ∀ A6 c6 w10, Appended w9 46 34 (([.int .i64 0, .int .u32 0] : List Value) ++ (List.replicate 32 (.int .u8 0 : Value))).toArray A5 n5 c5 1 l1 l2 A6 c6 w10 →
 (w10.cell? ⟨b3, 1, none⟩).isSome = true ∧ w10.frozen? ⟨b3, 1, none⟩ = false ∧
 ∀ w11, w11 = w10.setCell ⟨b3, 1, none⟩ (.slice A6 (n5 + 1) c6) →
 I2 (IntKind.i64.wrap (x4 + 1)) w11 ∧ μ2 (IntKind.i64.wrap (x4 + 1)) w11 < μ2 x4 w6) ∧
 (¬ x4 < (n4 : Int) →
 ∃ x9 A7 n6 c7, w6.rangeAt b3 0 ([.int .i64 x9, .slice A7 n6 c7] : List Value) ∧
 ∀ b7 w12, b7 = w6.heap.size → w12 = w6.alloc (.cells #[.int .i64 x9, .slice A7 n6 c7] 67) →
 ∃ l3 l4 : List Value, (n2 + 1) * 32 ≤ 140737488355328 ∧ l3.length = n2 * 2 ∧ RdS w12 A2 l3 ∧ l4.length = 1 * 2 ∧ RdS w12 (some ⟨b7, 0, none⟩) l4 ∧ One l4 ∧ (n2 + 1 ≤ c2 → Room w12 A2 (n2 * 2) (1 * 2)) ∧
 ∀ A8 c8 w13, Appended w12 67 2 #[.int .i64 0, .slice none 0 0] A2 n2 c2 1 l3 l4 A8 c8 w13 →
 I1 A8 (n2 + 1) c8 (IntKind.i64.wrap (x1 + 1)) w13 ∧ μ1 A8 (n2 + 1) c8 (IntKind.i64.wrap (x1 + 1)) w13 < μ1 A2 n2 c2 x1 w1)) ∧
 (¬ x1 < (n1 : Int) →
 Q (.slice A2 n2 c2) w1)
theorem L_10 (A1 : Option Addr) (n1 c1 : Nat) (w : World) (Q : Value → World → Prop) (h : S_10 A1 n1 c1 w Q) : Ret Tryz.prog 10 #[.slice A1 n1 c1] w Q := by
 unfold S_10 at h
 refine ret_of_wp Tryz.func10 rfl (wp_seq (qx (qbr (qz (wp_seq (qx (qbr (qz (wp_seq (wp_seq (qx (qbr (qz (wp_block ?_))))))))))))))
 obtain ⟨I1, μ1, hI1, hB1⟩ := h
 refine wp_loop_st (σ := (Option Addr) × Nat × Nat × Int) (fun s a => ∃ u1 : Nat → Value, a = ⟨#[.slice A1 n1 c1, undef, .slice none 0 0, .slice s.1 s.2.1 s.2.2.1, undef, u1 5, u1 6, undef, u1 8, .slice A1 n1 c1, .int .i64 (n1 : Int), .int .i64 s.2.2.2, u1 12, u1 13, u1 14, u1 15, u1 16, u1 17, u1 18, u1 19, u1 20, u1 21, u1 22, u1 23, u1 24, u1 25, u1 26, u1 27, u1 28, u1 29, u1 30, u1 31, u1 32, u1 33, u1 34, u1 35, u1 36, undef], []⟩) (fun s w => I1 s.1 s.2.1 s.2.2.1 s.2.2.2 w) (fun s w => μ1 s.1 s.2.1 s.2.2.1 s.2.2.2 w) (none, 0, 0, 0) (qaa) hI1 ?_
 rintro ⟨A2, n2, c2, x1⟩ a w1 ⟨u1, rfl⟩ hI1
 have h := hB1 A2 n2 c2 x1 w1 hI1
 refine wp_seq (qx (qbr (qz (wp_seq (wp_cond_split (t := (decide (x1 < (n1 : Int)))) (by kernel_rfl) (fun hb => ?_) (fun hb => ?_))))))
 ·replace h := h.1 (of_decide_eq_true hb)
  refine wp_skip (qz (wp_seq (wp_block (wp_seq (qx ?_)))))
  obtain ⟨b1, o1, rfl, h⟩ := h
  obtain ⟨h1, h2, h⟩ := h
  refine qq (qan (k := .i64) (j := x1) (b := b1) (off := o1) (n := n1) (c := c1) rfl Tryz.underlying28 Tryz.sizeOf61 h1 h2 ?_)
  obtain ⟨x2, A3, n3, c3, hx, h⟩ := h
  refine qq (qaq (cs := ([.int .i64 x2, .slice A3 n3 c3] : List Value)) rfl Tryz.isAgg61 Tryz.sizeOf61 (by simp []) hx ?_)
  refine qq (qac rfl Tryz.zeroValue61 ?_)
  intro b2 w2 e1 e2; replace h := h b2 w2 e1 e2
  obtain ⟨hw, h⟩ := h
  refine qq (qbd (cs := ([.int .i64 x2, .slice A3 n3 c3] : List Value)) rfl Tryz.sizeOf61 rfl (qab) hw ?_)
  intro w3 e1; replace h := h w3 e1
  refine qo (qz (wp_seq (qx (qbt 1 ?_))))
  obtain ⟨x3, hx, h⟩ := h
  refine qq (qap (v := .int .i64 x3) rfl Tryz.isAgg3 hx ?_)
  refine qbt 1 (qq (qac rfl Tryz.zeroValue67 ?_))
  intro b3 w4 e1 e2; replace h := h b3 w4 e1 e2
  obtain ⟨hw, h⟩ := h
  refine qq (qbd (cs := ([.int .i64 x3, .slice none 0 0] : List Value)) rfl Tryz.sizeOf67 rfl (qab) hw ?_)
  intro w5 e1; replace h := h w5 e1
  refine qo (qz (wp_seq (wp_seq (qx (qbt 1 ?_)))))
  obtain ⟨A4, n4, c4, hx, h⟩ := h
  refine qq (qap (v := .slice A4 n4 c4) rfl Tryz.isAgg59 hx ?_)
  refine qbr (qz (wp_block ?_))
  obtain ⟨I2, μ2, hI2, hB2⟩ := h
  refine wp_loop_st (σ := Int) (fun s a => ∃ u2 : Nat → Value, a = ⟨#[.slice (some ⟨b1, o1, none⟩) n1 c1, undef, .slice none 0 0, .slice A2 n2 c2, undef, .pointer (some ⟨b2, 0, none⟩), .pointer (some ⟨b3, 0, none⟩), undef, u2 8, .slice (some ⟨b1, o1, none⟩) n1 c1, .int .i64 (n1 : Int), .int .i64 x1, .bool (decide (x1 < (n1 : Int))), .pointer (some ⟨b1, (o1 + (x1).toNat * 2), none⟩), .agg #[.int .i64 x2, .slice A3 n3 c3], .pointer (some ⟨b2, 0, none⟩), .int .i64 x3, .agg #[.int .i64 x3, .slice none 0 0], .pointer (some ⟨b2, 1, none⟩), .slice A4 n4 c4, .int .i64 (n4 : Int), .int .i64 s, u2 22, u2 23, u2 24, u2 25, u2 26, u2 27, u2 28, u2 29, u2 30, u2 31, u1 32, u1 33, u1 34, u1 35, u1 36, undef], []⟩) (fun s w => I2 s w) (fun s w => μ2 s w) (0) (qaa) hI2 ?_
  rintro x4 a w6 ⟨u2, rfl⟩ hI2
  have h := hB2 x4 w6 hI2
  refine wp_seq (qx (qbr (qz (wp_seq (wp_cond_split (t := (decide (x4 < (n4 : Int)))) (by kernel_rfl) (fun hb => ?_) (fun hb => ?_))))))
  ·replace h := h.1 (of_decide_eq_true hb)
   refine wp_skip (qz (wp_seq (wp_block (wp_seq (qx ?_)))))
   obtain ⟨b4, o2, rfl, h⟩ := h
   obtain ⟨h1, h2, h⟩ := h
   refine qq (qan (k := .i64) (j := x4) (b := b4) (off := o2) (n := n4) (c := c4) rfl Tryz.underlying59 Tryz.sizeOf25 h1 h2 ?_)
   obtain ⟨x5, x6, d1, hl0, hx, h⟩ := h
   refine qq (qaq (cs := (([.int .i64 x5, .int .u32 x6] : List Value) ++ d1)) rfl Tryz.isAgg25 Tryz.sizeOf25 (by simp [hl0]) hx ?_)
   refine qq (qac rfl Tryz.zeroValue25 ?_)
   intro b5 w7 e1 e2; replace h := h b5 w7 e1 e2
   obtain ⟨hl, h1, hw, h⟩ := h
   refine qq (qbd (cs := (([.int .i64 x5, .int .u32 x6] : List Value) ++ d1)) rfl Tryz.sizeOf25 hl h1 hw ?_)
   intro w8 e1; replace h := h w8 e1
   refine qo (qz (qx (qbt 1 ?_)))
   obtain ⟨A5, n5, c5, hx, h⟩ := h
   refine qq (qap (v := .slice A5 n5 c5) rfl Tryz.isAgg65 hx ?_)
   obtain ⟨x7, x8, d2, hl0, hx, h⟩ := h
   refine qq (qaq (cs := (([.int .i64 x7, .int .u32 x8] : List Value) ++ d2)) rfl Tryz.isAgg25 Tryz.sizeOf25 (by simp [hl0]) hx ?_)
   refine qq (qag (cs := (([.int .i64 x7, .int .u32 x8] : List Value) ++ d2)) rfl Tryz.underlying65 Tryz.sizeOf46 Tryz.zeroValue46 (by obtain ⟨f0, rfl⟩ := exL (l := d2) (n := 32) (by assumption); kernel_rfl) (by decide) (by decide) ?_)
   intro b6 w9 e1 e2; replace h := h b6 w9 e1 e2
   obtain ⟨l1, l2, h1, h2, h3, h4, h5, h6, h7, h⟩ := h
   refine qq (qad (A := A5) (n := n5) (c := c5) (B := (some ⟨b6, 0, none⟩)) (m := 1) (c2 := 1) (olds := l1) (news := l2) rfl Tryz.underlying65 Tryz.underlying65 Tryz.typeInfo46 rfl (by decide) h1 h2 h3 h4 h5 h6 h7 ?_)
   intro A6 c6 w10 e1; replace h := h A6 c6 w10 e1
   refine qbt 1 ?_
   obtain ⟨hc, hf, h⟩ := h
   refine qq (qbc (v := .slice A6 (n5 + 1) c6) rfl Tryz.sizeOf65 rfl hc hf ?_)
   intro w11 e1; replace h := h w11 e1
   refine qo (qu (qz (qx (qbr (qz ?_)))))
   exact ⟨((IntKind.i64.wrap (x4 + 1))), qaa, h.1, h.2⟩
  ·replace h := h.2 (of_decide_eq_false hb)
   refine wp_exit (qr (qr (block_exit_eq (qz (qx (qbt 1 ?_))))))
   obtain ⟨x9, A7, n6, c7, hx, h⟩ := h
   refine qq (qaq (cs := ([.int .i64 x9, .slice A7 n6 c7] : List Value)) rfl Tryz.isAgg67 Tryz.sizeOf67 (by simp []) hx ?_)
   refine qq (qag (cs := ([.int .i64 x9, .slice A7 n6 c7] : List Value)) rfl Tryz.underlying45 Tryz.sizeOf67 Tryz.zeroValue67 (by kernel_rfl) (by decide) (by decide) ?_)
   intro b7 w12 e1 e2; replace h := h b7 w12 e1 e2
   obtain ⟨l3, l4, h1, h2, h3, h4, h5, h6, h7, h⟩ := h
   refine qq (qad (A := A2) (n := n2) (c := c2) (B := (some ⟨b7, 0, none⟩)) (m := 1) (c2 := 1) (olds := l3) (news := l4) rfl Tryz.underlying45 Tryz.underlying45 Tryz.typeInfo67 rfl (by decide) h1 h2 h3 h4 h5 h6 h7 ?_)
   intro A8 c8 w13 e1; replace h := h A8 c8 w13 e1
   refine qbr (qu (qz (qx (qbr (qz ?_)))))
   exact ⟨(A8, (n2 + 1), c8, (IntKind.i64.wrap (x1 + 1))), qaa, h.1, h.2⟩
 ·replace h := h.2 (of_decide_eq_false hb)
  refine wp_exit (qr (qr (block_exit_eq (qz (wp_seq (qx (qbr (qz (wp_ret ?_)))))))))
  exact qbh (v := .slice A2 n2 c2) h
def S_11 (A1 : Option Addr) (n1 c1 : Nat) (w : World) (Q : Value → World → Prop) : Prop :=
 ∃ (I1 : (Option Addr) → Nat → Nat → Int → World → Prop) (μ1 : (Option Addr) → Nat → Nat → Int → World → Nat), I1 none 0 0 0 w ∧
 ∀ A2 n2 c2 x1 w1, I1 A2 n2 c2 x1 w1 →
 (x1 < (n1 : Int) →
 ∃ b1 o1, A1 = some ⟨b1, o1, none⟩ ∧ (0 : Int) ≤ x1 ∧ x1 < (n1 : Int) ∧
 ∃ x2 A3 n3 c3, w1.rangeAt b1 (o1 + (x1).toNat * 2) ([.int .i64 x2, .slice A3 n3 c3] : List Value) ∧
 ∀ b2 w2, b2 = w1.heap.size → w2 = w1.alloc (.cells #[.int .i64 0, .slice none 0 0] 64) →
 w2.there b2 0 2 ∧
 ∀ w3, w3 = w2.setCells b2 0 ([.int .i64 x2, .slice A3 n3 c3] : List Value) →
 ∃ x3, w3.cell? ⟨b2, 0, none⟩ = some (.int .i64 x3) ∧
 ∃ A4 n4 c4, w3.cell? ⟨b2, 1, none⟩ = some (.slice A4 n4 c4) ∧
 ∀ b3 w4, b3 = w3.heap.size → w4 = w3.alloc (.cells #[.int .i64 x3, .slice A4 n4 c4] 68) →
 ∃ l1 l2 : List Value, (n2 + 1) * 32 ≤ 140737488355328 ∧ l1.length = n2 * 2 ∧ RdS w4 A2 l1 ∧ l2.length = 1 * 2 ∧ RdS w4 (some ⟨b3, 0, none⟩) l2 ∧ One l2 ∧ (n2 + 1 ≤ c2 → Room w4 A2 (n2 * 2) (1 * 2)) ∧
 ∀ A5 c5 w5, Appended w4 68 2 #[.int .i64 0, .slice none 0 0] A2 n2 c2 1 l1 l2 A5 c5 w5 →
 I1 A5 (n2 + 1) c5 (IntKind.i64.wrap (x1 + 1)) w5 ∧ μ1 A5 (n2 + 1) c5 (IntKind.i64.wrap (x1 + 1)) w5 < μ1 A2 n2 c2 x1 w1) ∧
 (¬ x1 < (n1 : Int) →
 Q (.slice A2 n2 c2) w1)
theorem L_11 (A1 : Option Addr) (n1 c1 : Nat) (w : World) (Q : Value → World → Prop) (h : S_11 A1 n1 c1 w Q) : Ret Tryz.prog 11 #[.slice A1 n1 c1] w Q := by
 unfold S_11 at h
 refine ret_of_wp Tryz.func11 rfl (wp_seq (qx (qbr (qz (wp_seq (qx (qbr (qz (wp_seq (wp_seq (qx (qbr (qz (wp_block ?_))))))))))))))
 obtain ⟨I1, μ1, hI1, hB1⟩ := h
 refine wp_loop_st (σ := (Option Addr) × Nat × Nat × Int) (fun s a => ∃ u1 : Nat → Value, a = ⟨#[.slice A1 n1 c1, undef, .slice none 0 0, .slice s.1 s.2.1 s.2.2.1, undef, u1 5, .slice A1 n1 c1, .int .i64 (n1 : Int), .int .i64 s.2.2.2, u1 9, u1 10, u1 11, u1 12, u1 13, u1 14, u1 15, u1 16, u1 17, u1 18, u1 19, u1 20, undef], []⟩) (fun s w => I1 s.1 s.2.1 s.2.2.1 s.2.2.2 w) (fun s w => μ1 s.1 s.2.1 s.2.2.1 s.2.2.2 w) (none, 0, 0, 0) (qaa) hI1 ?_
 rintro ⟨A2, n2, c2, x1⟩ a w1 ⟨u1, rfl⟩ hI1
 have h := hB1 A2 n2 c2 x1 w1 hI1
 refine wp_seq (qx (qbr (qz (wp_seq (wp_cond_split (t := (decide (x1 < (n1 : Int)))) (by kernel_rfl) (fun hb => ?_) (fun hb => ?_))))))
 ·replace h := h.1 (of_decide_eq_true hb)
  refine wp_skip (qz (wp_seq (wp_block (wp_seq (qx ?_)))))
  obtain ⟨b1, o1, rfl, h⟩ := h
  obtain ⟨h1, h2, h⟩ := h
  refine qq (qan (k := .i64) (j := x1) (b := b1) (off := o1) (n := n1) (c := c1) rfl Tryz.underlying29 Tryz.sizeOf64 h1 h2 ?_)
  obtain ⟨x2, A3, n3, c3, hx, h⟩ := h
  refine qq (qaq (cs := ([.int .i64 x2, .slice A3 n3 c3] : List Value)) rfl Tryz.isAgg64 Tryz.sizeOf64 (by simp []) hx ?_)
  refine qq (qac rfl Tryz.zeroValue64 ?_)
  intro b2 w2 e1 e2; replace h := h b2 w2 e1 e2
  obtain ⟨hw, h⟩ := h
  refine qq (qbd (cs := ([.int .i64 x2, .slice A3 n3 c3] : List Value)) rfl Tryz.sizeOf64 rfl (qab) hw ?_)
  intro w3 e1; replace h := h w3 e1
  refine qo (qz (qx (qbt 2 ?_)))
  obtain ⟨x3, hx, h⟩ := h
  refine qq (qap (v := .int .i64 x3) rfl Tryz.isAgg3 hx ?_)
  refine qbt 1 ?_
  obtain ⟨A4, n4, c4, hx, h⟩ := h
  refine qq (qap (v := .slice A4 n4 c4) rfl Tryz.isAgg62 hx ?_)
  refine qbt 1 (qq (qag (cs := ([.int .i64 x3, .slice A4 n4 c4] : List Value)) rfl Tryz.underlying50 Tryz.sizeOf68 Tryz.zeroValue68 (by kernel_rfl) (by decide) (by decide) ?_))
  intro b3 w4 e1 e2; replace h := h b3 w4 e1 e2
  obtain ⟨l1, l2, h1, h2, h3, h4, h5, h6, h7, h⟩ := h
  refine qq (qad (A := A2) (n := n2) (c := c2) (B := (some ⟨b3, 0, none⟩)) (m := 1) (c2 := 1) (olds := l1) (news := l2) rfl Tryz.underlying50 Tryz.underlying50 Tryz.typeInfo68 rfl (by decide) h1 h2 h3 h4 h5 h6 h7 ?_)
  intro A5 c5 w5 e1; replace h := h A5 c5 w5 e1
  refine qbr (qu (qz (qx (qbr (qz ?_)))))
  exact ⟨(A5, (n2 + 1), c5, (IntKind.i64.wrap (x1 + 1))), qaa, h.1, h.2⟩
 ·replace h := h.2 (of_decide_eq_false hb)
  refine wp_exit (qr (qr (block_exit_eq (qz (wp_seq (qx (qbr (qz (wp_ret ?_)))))))))
  exact qbh (v := .slice A2 n2 c2) h
def S_12 (d1 : List Value) (x1 x2 : Int) (A1 : Option Addr) (n1 c1 : Nat) (A2 : Option Addr) (n2 c2 : Nat) (x3 x4 : Int) (d2 : List Value) (A3 : Option Addr) (n3 c3 : Nat) (A4 : Option Addr) (n4 c4 : Nat) (w : World) (Q : Value → World → Prop) : Prop :=
 ∀ b1 w1, b1 = w.heap.size → w1 = w.alloc (.cells d1.toArray 22) →
 ∀ b2 w2, b2 = w1.heap.size → w2 = w1.alloc (.cells #[.int .i64 x2, .slice A1 n1 c1, .slice A2 n2 c2] 37) →
 ∀ b3 w3, b3 = w2.heap.size → w3 = w2.alloc (.cells (([.int .i64 x3, .int .u32 x4] : List Value) ++ d2).toArray 25) →
 ∀ b4 w4, b4 = w3.heap.size → w4 = w3.alloc (.cells (([.slice none 0 0, .slice none 0 0, .int .i64 0, .int .u32 0] : List Value) ++ (List.replicate 32 (.int .u8 0 : Value)) ++ ([.int .i64 0] : List Value)).toArray 54) →
 ∃ x5 A5 n5 c5 A6 n6 c6, w4.rangeAt b2 0 ([.int .i64 x5, .slice A5 n5 c5, .slice A6 n6 c6] : List Value) ∧
 Ret Tryz.prog 23 #[.agg #[.int .i64 x5, .slice A5 n5 c5, .slice A6 n6 c6], .slice A3 n3 c3, .slice A4 n4 c4] w4 fun r1 w5 => ∃ q1, r1 = .bool q1 ∧
 (q1 = false →
 w5.there b4 0 37 ∧
 ∀ w6, w6 = w5.setCells b4 0 (([.slice none 0 0, .slice none 0 0, .int .i64 0, .int .u32 0] : List Value) ++ (List.replicate 32 (.int .u8 0 : Value)) ++ ([.int .i64 1] : List Value)) →
 ∃ (A7 : Option Addr) (n7 : Nat) (c7 : Nat) (A8 : Option Addr) (n8 : Nat) (c8 : Nat) (x6 : Int) (x7 : Int) (d3 : List Value) (x8 : Int), d3.length = 32 ∧ w6.rangeAt b4 0 (([.slice A7 n7 c7, .slice A8 n8 c8, .int .i64 x6, .int .u32 x7] : List Value) ++ d3 ++ ([.int .i64 x8] : List Value)) ∧ Q (.agg (([.slice A7 n7 c7, .slice A8 n8 c8, .int .i64 x6, .int .u32 x7] : List Value) ++ d3 ++ ([.int .i64 x8] : List Value)).toArray) w6) ∧
 (q1 = true →
 ∃ (x9 : Int) (x10 : Int) (d4 : List Value), d4.length = 32 ∧ w5.rangeAt b3 0 (([.int .i64 x9, .int .u32 x10] : List Value) ++ d4) ∧
 Ret Tryz.prog 24 #[.agg (([.int .i64 x9, .int .u32 x10] : List Value) ++ d4).toArray] w5 fun r2 w7 => ∃ q2, r2 = .bool q2 ∧
 (q2 = false →
 w7.there b4 0 37 ∧
 ∀ w8, w8 = w7.setCells b4 0 (([.slice none 0 0, .slice none 0 0, .int .i64 0, .int .u32 0] : List Value) ++ (List.replicate 32 (.int .u8 0 : Value)) ++ ([.int .i64 1] : List Value)) →
 ∃ (A9 : Option Addr) (n9 : Nat) (c9 : Nat) (A10 : Option Addr) (n10 : Nat) (c10 : Nat) (x11 : Int) (x12 : Int) (d5 : List Value) (x13 : Int), d5.length = 32 ∧ w8.rangeAt b4 0 (([.slice A9 n9 c9, .slice A10 n10 c10, .int .i64 x11, .int .u32 x12] : List Value) ++ d5 ++ ([.int .i64 x13] : List Value)) ∧ Q (.agg (([.slice A9 n9 c9, .slice A10 n10 c10, .int .i64 x11, .int .u32 x12] : List Value) ++ d5 ++ ([.int .i64 x13] : List Value)).toArray) w8) ∧
 (q2 = true →
 ∃ (x14 : Int) (x15 : Int) (d6 : List Value), d6.length = 32 ∧ w7.rangeAt b3 0 (([.int .i64 x14, .int .u32 x15] : List Value) ++ d6) ∧
 ∀ b5 w9, b5 = w7.heap.size → w9 = w7.alloc (.cells (([.slice none 0 0, .slice none 0 0, .int .i64 0, .int .u32 0] : List Value) ++ (List.replicate 32 (.int .u8 0 : Value)) ++ ([.int .i64 0] : List Value)).toArray 54) →
 (([.slice none 0 0, .slice none 0 0, .int .i64 x14, .int .u32 x15] : List Value) ++ d6 ++ ([.int .i64 0] : List Value)).length = 37 ∧ One (([.slice none 0 0, .slice none 0 0, .int .i64 x14, .int .u32 x15] : List Value) ++ d6 ++ ([.int .i64 0] : List Value)) ∧ w9.there b5 0 37 ∧
 ∀ w10, w10 = w9.setCells b5 0 (([.slice none 0 0, .slice none 0 0, .int .i64 x14, .int .u32 x15] : List Value) ++ d6 ++ ([.int .i64 0] : List Value)) →
 ∀ w11, w11 = w10.drew →
 ∃ x16 A11 n11 c11 A12 n12 c12, w10.rangeAt b2 0 ([.int .i64 x16, .slice A11 n11 c11, .slice A12 n12 c12] : List Value) ∧
 Ret Tryz.prog 26 #[.slice A4 n4 c4] w11 fun r3 w12 => ∃ A13 n13 c13, r3 = .slice A13 n13 c13 ∧
 Keep w10 w12 ∧
 Ret Tryz.prog 25 #[.agg #[.int .i64 x16, .slice A11 n11 c11, .slice A12 n12 c12], .slice A13 n13 c13] w12 fun r4 w13 => ∃ A14 n14 c14, r4 = .slice A14 n14 c14 ∧
 ∃ A15 n15 c15, w13.cell? ⟨b2, 1, none⟩ = some (.slice A15 n15 c15) ∧
 (0 : Int) ≤ (n15 : Int) ∧ ((n15 : Int) : Int) ≤ (n15 : Int) ∧ (48 : Int) * (n15 : Int) ≤ 281474976710656 ∧
 ∀ b6 w14, b6 = w13.heap.size → w14 = w13.alloc (.cells (madeCells (([.int .i64 0, .int .u32 0] : List Value) ++ (List.replicate 32 (.int .u8 0 : Value))).toArray (((n15 : Int)).toNat * 34)) 25) →
 ∃ A16 n16 c16, w14.cell? ⟨b2, 1, none⟩ = some (.slice A16 n16 c16) ∧
 (0 : Int) ≤ (n16 : Int) ∧ ((n16 : Int) : Int) ≤ (n16 : Int) ∧ (1 : Int) * (n16 : Int) ≤ 281474976710656 ∧
 ∀ b7 w15, b7 = w14.heap.size → w15 = w14.alloc (.cells (madeCells #[.bool false] (((n16 : Int)).toNat * 1)) 4) →
 ∃ (I1 : Int → World → Prop) (μ1 : Int → World → Nat), I1 0 w15 ∧
 ∀ x17 w16, I1 x17 w16 →
 ∃ A17 n17 c17, w16.cell? ⟨b2, 1, none⟩ = some (.slice A17 n17 c17) ∧
 (x17 < (n17 : Int) →
 ∃ J1 : (Option Addr) → Nat → Nat → World → Prop, (∀ A19 n19 c19 w17, J1 A19 n19 c19 w17 →
 ∃ (x18 : Int) (x19 : Int) (d7 : List Value), d7.length = 32 ∧ w17.rangeAt b3 0 (([.int .i64 x18, .int .u32 x19] : List Value) ++ d7) ∧
 ∀ b8 w18, b8 = w17.heap.size → w18 = w17.alloc (.cells (([.int .i64 0, .int .u32 0] : List Value) ++ (List.replicate 32 (.int .u8 0 : Value))).toArray 25) →
 (([.int .i64 x18, .int .u32 x19] : List Value) ++ d7).length = 34 ∧ One (([.int .i64 x18, .int .u32 x19] : List Value) ++ d7) ∧ w18.there b8 0 34 ∧
 ∀ w19, w19 = w18.setCells b8 0 (([.int .i64 x18, .int .u32 x19] : List Value) ++ d7) →
 ∃ J2 : World → Prop, (∀  (w20 : World), J2 w20 →
 ∃ x20 A20 n20 c20 A21 n21 c21, w20.rangeAt b2 0 ([.int .i64 x20, .slice A20 n20 c20, .slice A21 n21 c21] : List Value) ∧
 ∃ x21, w20.cell? ⟨b8, 0, none⟩ = some (.int .i64 x21) ∧
 Ret Tryz.prog 32 #[.agg #[.int .i64 x20, .slice A20 n20 c20, .slice A21 n21 c21], .int .i64 x17, .int .i64 (IntKind.i64.wrap (1 - x21))] w20 fun r5 w21 => ∃ x22, r5 = .int .i64 x22 ∧
 ∃ (d8 : List Value), d8.length = 32 ∧ w21.rangeAt b1 0 d8 ∧
 ∃ x23, w21.cell? ⟨b8, 0, none⟩ = some (.int .i64 x23) ∧
 Ret Tryz.prog 33 #[.agg d8.toArray, .int .u32 x1, .int .i64 (IntKind.i64.wrap (1 - x23)), .int .i64 x22, .slice A19 n19 c19] w21 fun r6 w22 => ∃ (A22 : Option Addr) (n22 : Nat) (c22 : Nat) (x24 : Int) (x25 : Int) (d9 : List Value) (x26 : Int), r6 = .tuple #[.slice A22 n22 c22, .agg (([.int .i64 x24, .int .u32 x25] : List Value) ++ d9).toArray, .int .i64 x26] ∧ d9.length = 32 ∧
 ∀ b9 w23, b9 = w22.heap.size → w23 = w22.alloc (.cells (([.int .i64 0, .int .u32 0] : List Value) ++ (List.replicate 32 (.int .u8 0 : Value))).toArray 25) →
 (([.int .i64 x24, .int .u32 x25] : List Value) ++ d9).length = 34 ∧ One (([.int .i64 x24, .int .u32 x25] : List Value) ++ d9) ∧ w23.there b9 0 34 ∧
 ∀ w24, w24 = w23.setCells b9 0 (([.int .i64 x24, .int .u32 x25] : List Value) ++ d9) →
 ∃ A23 n23 c23, w24.cell? ⟨b5, 0, none⟩ = some (.slice A23 n23 c23) ∧
 ∀ b10 w25, b10 = w24.heap.size → w25 = w24.alloc (.cells #[.int .i64 x22, .slice A22 n22 c22] 102) →
 ∃ l1 l2 : List Value, (n23 + 1) * 32 ≤ 140737488355328 ∧ l1.length = n23 * 2 ∧ RdS w25 A23 l1 ∧ l2.length = 1 * 2 ∧ RdS w25 (some ⟨b10, 0, none⟩) l2 ∧ One l2 ∧ (n23 + 1 ≤ c23 → Room w25 A23 (n23 * 2) (1 * 2)) ∧
 ∀ A24 c24 w26, Appended w25 102 2 #[.int .i64 0, .slice none 0 0] A23 n23 c23 1 l1 l2 A24 c24 w26 →
 (w26.cell? ⟨b5, 0, none⟩).isSome = true ∧ w26.frozen? ⟨b5, 0, none⟩ = false ∧
 ∀ w27, w27 = w26.setCell ⟨b5, 0, none⟩ (.slice A24 (n23 + 1) c24) →
 ∃ (x27 : Int) (x28 : Int) (d10 : List Value), d10.length = 32 ∧ w27.rangeAt b9 0 (([.int .i64 x27, .int .u32 x28] : List Value) ++ d10) ∧
 (0 : Int) ≤ x17 ∧ x17 < ((((n15 : Int)).toNat : Nat) : Int) ∧
 (([.int .i64 x27, .int .u32 x28] : List Value) ++ d10).length = 34 ∧ One (([.int .i64 x27, .int .u32 x28] : List Value) ++ d10) ∧ w27.there b6 (0 + (x17).toNat * 34) 34 ∧
 ∀ w28, w28 = w27.setCells b6 (0 + (x17).toNat * 34) (([.int .i64 x27, .int .u32 x28] : List Value) ++ d10) →
 (0 : Int) ≤ x17 ∧ x17 < ((((n16 : Int)).toNat : Nat) : Int) ∧
 (w28.cell? ⟨b7, (0 + (x17).toNat * 1), none⟩).isSome = true ∧ w28.frozen? ⟨b7, (0 + (x17).toNat * 1), none⟩ = false ∧
 ∀ w29, w29 = w28.setCell ⟨b7, (0 + (x17).toNat * 1), none⟩ (.bool true) →
 ∃ A25 n24 c25, w29.cell? ⟨b2, 1, none⟩ = some (.slice A25 n24 c25) ∧
 (x17 = (IntKind.i64.wrap ((n24 : Int) - 1)) →
 ∃ (x29 : Int) (x30 : Int) (d11 : List Value), d11.length = 32 ∧ w29.rangeAt b9 0 (([.int .i64 x29, .int .u32 x30] : List Value) ++ d11) ∧
 (([.int .i64 x29, .int .u32 x30] : List Value) ++ d11).length = 34 ∧ One (([.int .i64 x29, .int .u32 x30] : List Value) ++ d11) ∧ w29.there b5 2 34 ∧
 ∀ w30, w30 = w29.setCells b5 2 (([.int .i64 x29, .int .u32 x30] : List Value) ++ d11) →
 I1 (IntKind.i64.wrap (x17 + 1)) w30 ∧ μ1 (IntKind.i64.wrap (x17 + 1)) w30 < μ1 x17 w16) ∧
 (x17 ≠ (IntKind.i64.wrap ((n24 : Int) - 1)) →
 I1 (IntKind.i64.wrap (x17 + 1)) w29 ∧ μ1 (IntKind.i64.wrap (x17 + 1)) w29 < μ1 x17 w16)) ∧
 ∃ x31 A26 n25 c26 A27 n26 c27, w19.rangeAt b2 0 ([.int .i64 x31, .slice A26 n25 c26, .slice A27 n26 c27] : List Value) ∧
 Ret Tryz.prog 31 #[.agg #[.int .i64 x31, .slice A26 n25 c26, .slice A27 n26 c27], .int .i64 x17] w19 fun r7 w31 => ∃ x32 x33 q3, r7 = .tuple #[.int .i64 x32, .int .i64 x33, .bool q3] ∧
 (q3 = true →
 Ret Tryz.prog 28 #[.slice A3 n3 c3, .int .i64 x32] w31 fun r8 w32 => ∃ A28 n27 c28 q4, r8 = .tuple #[.slice A28 n27 c28, .bool q4] ∧
 ∃ b11 o1, A28 = some ⟨b11, o1, none⟩ ∧ (0 : Int) ≤ x33 ∧ x33 < (n27 : Int) ∧
 ∃ (x34 : Int) (x35 : Int) (d12 : List Value), d12.length = 32 ∧ w32.rangeAt b11 (o1 + (x33).toNat * 34) (([.int .i64 x34, .int .u32 x35] : List Value) ++ d12) ∧
 (([.int .i64 x34, .int .u32 x35] : List Value) ++ d12).length = 34 ∧ One (([.int .i64 x34, .int .u32 x35] : List Value) ++ d12) ∧ w32.there b8 0 34 ∧
 ∀ w33, w33 = w32.setCells b8 0 (([.int .i64 x34, .int .u32 x35] : List Value) ++ d12) →
 J2 w33) ∧
 (q3 = false →
 J2 w31)) ∧
 Ret Tryz.prog 26 #[.slice A4 n4 c4] w16 fun r9 w34 => ∃ A29 n28 c29, r9 = .slice A29 n28 c29 ∧
 Ret Tryz.prog 27 #[.slice A29 n28 c29, .int .i64 x17] w34 fun r10 w35 => ∃ q5, r10 = .bool q5 ∧
 (q5 = true →
 ∃ (I2 : (Option Addr) → Nat → Nat → Int → World → Prop) (μ2 : (Option Addr) → Nat → Nat → Int → World → Nat), I2 none 0 0 0 w35 ∧
 ∀ A30 n29 c30 x36 w36, I2 A30 n29 c30 x36 w36 →
 (x36 < (n4 : Int) →
 ∃ b12 o2, A4 = some ⟨b12, o2, none⟩ ∧ (0 : Int) ≤ x36 ∧ x36 < (n4 : Int) ∧
 ∃ x37, w36.cell? ⟨b12, (o2 + (x36).toNat * 2), none⟩ = some (.int .i64 x37) ∧
 (x37 = x17 →
 (0 : Int) ≤ x36 ∧ x36 < (n4 : Int) ∧
 ∃ A31 n30 c31, w36.cell? ⟨b12, ((o2 + (x36).toNat * 2) + 1), none⟩ = some (.slice A31 n30 c31) ∧
 I2 A31 n30 c31 (IntKind.i64.wrap (x36 + 1)) w36 ∧ μ2 A31 n30 c31 (IntKind.i64.wrap (x36 + 1)) w36 < μ2 A30 n29 c30 x36 w36) ∧
 (x37 ≠ x17 →
 I2 A30 n29 c30 (IntKind.i64.wrap (x36 + 1)) w36 ∧ μ2 A30 n29 c30 (IntKind.i64.wrap (x36 + 1)) w36 < μ2 A30 n29 c30 x36 w36)) ∧
 (¬ x36 < (n4 : Int) →
 J1 A30 n29 c30 w36)) ∧
 (q5 = false →
 Ret Tryz.prog 27 #[.slice A14 n14 c14, .int .i64 x17] w35 fun r11 w37 => ∃ q6, r11 = .bool q6 ∧
 (q6 = true →
 Ret Tryz.prog 28 #[.slice A3 n3 c3, .int .i64 x17] w37 fun r12 w38 => ∃ A32 n31 c32 q7, r12 = .tuple #[.slice A32 n31 c32, .bool q7] ∧
 ∃ l3 l4 : List Value, (0 + n31) * 48 ≤ 140737488355328 ∧ l3.length = 0 * 34 ∧ RdS w38 none l3 ∧ l4.length = n31 * 34 ∧ RdS w38 A32 l4 ∧ One l4 ∧ (0 + n31 ≤ 0 → Room w38 none (0 * 34) (n31 * 34)) ∧
 ∀ A33 c33 w39, Appended w38 25 34 (([.int .i64 0, .int .u32 0] : List Value) ++ (List.replicate 32 (.int .u8 0 : Value))).toArray none 0 0 n31 l3 l4 A33 c33 w39 →
 ∃ x38 A34 n32 c34 A35 n33 c35, w39.rangeAt b2 0 ([.int .i64 x38, .slice A34 n32 c34, .slice A35 n33 c35] : List Value) ∧
 Ret Tryz.prog 29 #[.agg #[.int .i64 x38, .slice A34 n32 c34, .slice A35 n33 c35], .int .i64 x17] w39 fun r13 w40 => ∃ A36 n34 c36, r13 = .slice A36 n34 c36 ∧
 ∃ (I3 : Int → World → Prop) (μ3 : Int → World → Nat), I3 0 w40 ∧
 ∀ x39 w41, I3 x39 w41 →
 (x39 < (n34 : Int) →
 ∃ b13 o3, A36 = some ⟨b13, o3, none⟩ ∧ (0 : Int) ≤ x39 ∧ x39 < (n34 : Int) ∧
 ∃ x40, w41.cell? ⟨b13, (o3 + (x39).toNat * 1), none⟩ = some (.int .i64 x40) ∧
 (0 : Int) ≤ x40 ∧ x40 < ((((n16 : Int)).toNat : Nat) : Int) ∧
 ∃ q8, w41.cell? ⟨b7, (0 + (x40).toNat * 1), none⟩ = some (.bool q8) ∧
 (q8 = true →
 (0 : Int) ≤ x39 ∧ x39 < (n34 : Int) ∧
 ∃ x41, w41.cell? ⟨b13, (o3 + (x39).toNat * 1), none⟩ = some (.int .i64 x41) ∧
 (0 : Int) ≤ x41 ∧ x41 < ((((n15 : Int)).toNat : Nat) : Int) ∧
 ∃ (x42 : Int) (x43 : Int) (d13 : List Value), d13.length = 32 ∧ w41.rangeAt b6 (0 + (x41).toNat * 34) (([.int .i64 x42, .int .u32 x43] : List Value) ++ d13) ∧
 ∃ b14 o4, A33 = some ⟨b14, o4, none⟩ ∧ (0 : Int) ≤ x39 ∧ x39 < (((0 + n31) : Nat) : Int) ∧
 (([.int .i64 x42, .int .u32 x43] : List Value) ++ d13).length = 34 ∧ One (([.int .i64 x42, .int .u32 x43] : List Value) ++ d13) ∧ w41.there b14 (o4 + (x39).toNat * 34) 34 ∧
 ∀ w42, w42 = w41.setCells b14 (o4 + (x39).toNat * 34) (([.int .i64 x42, .int .u32 x43] : List Value) ++ d13) →
 I3 (IntKind.i64.wrap (x39 + 1)) w42 ∧ μ3 (IntKind.i64.wrap (x39 + 1)) w42 < μ3 x39 w41) ∧
 (q8 = false →
 I3 (IntKind.i64.wrap (x39 + 1)) w41 ∧ μ3 (IntKind.i64.wrap (x39 + 1)) w41 < μ3 x39 w41)) ∧
 (¬ x39 < (n34 : Int) →
 ∃ A37 n35 c37, w41.cell? ⟨b5, 1, none⟩ = some (.slice A37 n35 c37) ∧
 ∀ b15 w43, b15 = w41.heap.size → w43 = w41.alloc (.cells #[.int .i64 x17, .slice A33 (0 + n31) c33] 61) →
 ∃ l5 l6 : List Value, (n35 + 1) * 32 ≤ 140737488355328 ∧ l5.length = n35 * 2 ∧ RdS w43 A37 l5 ∧ l6.length = 1 * 2 ∧ RdS w43 (some ⟨b15, 0, none⟩) l6 ∧ One l6 ∧ (n35 + 1 ≤ c37 → Room w43 A37 (n35 * 2) (1 * 2)) ∧
 ∀ A38 c38 w44, Appended w43 61 2 #[.int .i64 0, .slice none 0 0] A37 n35 c37 1 l5 l6 A38 c38 w44 →
 (w44.cell? ⟨b5, 1, none⟩).isSome = true ∧ w44.frozen? ⟨b5, 1, none⟩ = false ∧
 ∀ w45, w45 = w44.setCell ⟨b5, 1, none⟩ (.slice A38 (n35 + 1) c38) →
 Ret Tryz.prog 30 #[.slice A33 (0 + n31) c33] w45 fun r14 w46 => ∃ A39 n36 c39 x44, r14 = .tuple #[.slice A39 n36 c39, .int .i64 x44] ∧
 J1 A39 n36 c39 w46)) ∧
 (q6 = false →
 I1 (IntKind.i64.wrap (x17 + 1)) w37 ∧ μ1 (IntKind.i64.wrap (x17 + 1)) w37 < μ1 x17 w16))) ∧
 (¬ x17 < (n17 : Int) →
 ∃ (A40 : Option Addr) (n37 : Nat) (c40 : Nat) (A41 : Option Addr) (n38 : Nat) (c41 : Nat) (x45 : Int) (x46 : Int) (d14 : List Value) (x47 : Int), d14.length = 32 ∧ w16.rangeAt b5 0 (([.slice A40 n37 c40, .slice A41 n38 c41, .int .i64 x45, .int .u32 x46] : List Value) ++ d14 ++ ([.int .i64 x47] : List Value)) ∧
 (([.slice A40 n37 c40, .slice A41 n38 c41, .int .i64 x45, .int .u32 x46] : List Value) ++ d14 ++ ([.int .i64 x47] : List Value)).length = 37 ∧ One (([.slice A40 n37 c40, .slice A41 n38 c41, .int .i64 x45, .int .u32 x46] : List Value) ++ d14 ++ ([.int .i64 x47] : List Value)) ∧ w16.there b4 0 37 ∧
 ∀ w47, w47 = w16.setCells b4 0 (([.slice A40 n37 c40, .slice A41 n38 c41, .int .i64 x45, .int .u32 x46] : List Value) ++ d14 ++ ([.int .i64 x47] : List Value)) →
 ∃ (A42 : Option Addr) (n39 : Nat) (c42 : Nat) (A43 : Option Addr) (n40 : Nat) (c43 : Nat) (x48 : Int) (x49 : Int) (d15 : List Value) (x50 : Int), d15.length = 32 ∧ w47.rangeAt b4 0 (([.slice A42 n39 c42, .slice A43 n40 c43, .int .i64 x48, .int .u32 x49] : List Value) ++ d15 ++ ([.int .i64 x50] : List Value)) ∧ Q (.agg (([.slice A42 n39 c42, .slice A43 n40 c43, .int .i64 x48, .int .u32 x49] : List Value) ++ d15 ++ ([.int .i64 x50] : List Value)).toArray) w47)))
theorem L_12 (d1 : List Value) (x1 x2 : Int) (A1 : Option Addr) (n1 c1 : Nat) (A2 : Option Addr) (n2 c2 : Nat) (x3 x4 : Int) (d2 : List Value) (A3 : Option Addr) (n3 c3 : Nat) (A4 : Option Addr) (n4 c4 : Nat) (w : World) (Q : Value → World → Prop) (hp0 : d1.length = 32) (hp1 : d2.length = 32) (h : S_12 d1 x1 x2 A1 n1 c1 A2 n2 c2 x3 x4 d2 A3 n3 c3 A4 n4 c4 w Q) : Ret Tryz.prog 12 #[.agg d1.toArray, .int .u32 x1, .agg #[.int .i64 x2, .slice A1 n1 c1, .slice A2 n2 c2], .agg (([.int .i64 x3, .int .u32 x4] : List Value) ++ d2).toArray, .slice A3 n3 c3, .slice A4 n4 c4] w Q := by
 unfold S_12 at h
 refine ret_of_wp Tryz.func12 rfl (wp_seq (qx (qq (qaf (v := .agg d1.toArray) rfl ?_))))
 intro b1 w1 e1 e2; replace h := h b1 w1 e1 e2
 refine qq (qaf (v := .agg #[.int .i64 x2, .slice A1 n1 c1, .slice A2 n2 c2]) rfl ?_)
 intro b2 w2 e1 e2; replace h := h b2 w2 e1 e2
 refine qq (qaf (v := .agg (([.int .i64 x3, .int .u32 x4] : List Value) ++ d2).toArray) rfl ?_)
 intro b3 w3 e1 e2; replace h := h b3 w3 e1 e2
 refine qq (qac rfl Tryz.zeroValue54 ?_)
 intro b4 w4 e1 e2; replace h := h b4 w4 e1 e2
 refine qo (qz (wp_seq (wp_seq (qx ?_))))
 obtain ⟨x5, A5, n5, c5, A6, n6, c6, hx, h⟩ := h
 refine qq (qaq (cs := ([.int .i64 x5, .slice A5 n5 c5, .slice A6 n6 c6] : List Value)) rfl Tryz.isAgg37 Tryz.sizeOf37 (by simp []) hx ?_)
 refine qbt 2 (qq (qai (args := #[.agg #[.int .i64 x5, .slice A5 n5 c5, .slice A6 n6 c6], .slice A3 n3 c3, .slice A4 n4 c4]) rfl Tryz.call23 (Ret.mono h ?_)))
 clear h; rintro r1 w5 ⟨q1, rfl, h⟩
 refine qbt 2 (wl_split (e := (!q1)) ?_ ?_)
 ·intro hb; refine qbs 40 (e := (!q1)) (b := true) hb ?_
  replace h := h.1 ((not_flip hb))
  refine qbr (qz (wp_cond_true (by kernel_rfl) (wp_seq (qx (qbt 1 ?_)))))
  obtain ⟨hw, h⟩ := h
  refine qq (qbd (cs := (([.slice none 0 0, .slice none 0 0, .int .i64 0, .int .u32 0] : List Value) ++ (List.replicate 32 (.int .u8 0 : Value)) ++ ([.int .i64 1] : List Value))) rfl Tryz.sizeOf54 rfl (qab) hw ?_)
  intro w6 e1; replace h := h w6 e1
  refine qo (qz (wp_ret (qs ?_)))
  obtain ⟨A7, n7, c7, A8, n8, c8, x6, x7, d3, x8, hl0_0, hx0, h⟩ := h
  exact qbi (vs := [.agg (([.slice A7 n7 c7, .slice A8 n8 c8, .int .i64 x6, .int .u32 x7] : List Value) ++ d3 ++ ([.int .i64 x8] : List Value)).toArray]) (v := .agg (([.slice A7 n7 c7, .slice A8 n8 c8, .int .i64 x6, .int .u32 x7] : List Value) ++ d3 ++ ([.int .i64 x8] : List Value)).toArray) Tryz.results12 ⟨⟨b4, 0, by kernel_rfl, run_loadN Tryz.isAgg54 Tryz.sizeOf54 (by simp [hl0_0]) hx0⟩, trivial⟩ h
 ·intro hb; refine qbs 40 (e := (!q1)) (b := false) hb ?_
  replace h := h.2 ((not_flip hb))
  obtain ⟨x9, x10, d4, hl0, hx, h⟩ := h
  refine qq (qaq (cs := (([.int .i64 x9, .int .u32 x10] : List Value) ++ d4)) rfl Tryz.isAgg25 Tryz.sizeOf25 (by simp [hl0]) hx ?_)
  refine qq (qai (args := #[.agg (([.int .i64 x9, .int .u32 x10] : List Value) ++ d4).toArray]) rfl Tryz.call24 (Ret.mono h ?_))
  clear h; rintro r2 w7 ⟨q2, rfl, h⟩
  refine qbr (qz (wp_cond_split (t := (!q2)) (by kernel_rfl) (fun hb => ?_) (fun hb => ?_)))
  ·replace h := h.1 ((not_flip hb))
   refine wp_seq (qx (qbt 1 ?_))
   obtain ⟨hw, h⟩ := h
   refine qq (qbd (cs := (([.slice none 0 0, .slice none 0 0, .int .i64 0, .int .u32 0] : List Value) ++ (List.replicate 32 (.int .u8 0 : Value)) ++ ([.int .i64 1] : List Value))) rfl Tryz.sizeOf54 rfl (qab) hw ?_)
   intro w8 e1; replace h := h w8 e1
   refine qo (qz (wp_ret (qs ?_)))
   obtain ⟨A9, n9, c9, A10, n10, c10, x11, x12, d5, x13, hl0_0, hx0, h⟩ := h
   exact qbi (vs := [.agg (([.slice A9 n9 c9, .slice A10 n10 c10, .int .i64 x11, .int .u32 x12] : List Value) ++ d5 ++ ([.int .i64 x13] : List Value)).toArray]) (v := .agg (([.slice A9 n9 c9, .slice A10 n10 c10, .int .i64 x11, .int .u32 x12] : List Value) ++ d5 ++ ([.int .i64 x13] : List Value)).toArray) Tryz.results12 ⟨⟨b4, 0, by kernel_rfl, run_loadN Tryz.isAgg54 Tryz.sizeOf54 (by simp [hl0_0]) hx0⟩, trivial⟩ h
  ·replace h := h.2 ((not_flip hb))
   refine wp_skip (qz (wp_seq (qx ?_)))
   obtain ⟨x14, x15, d6, hl0, hx, h⟩ := h
   refine qq (qaq (cs := (([.int .i64 x14, .int .u32 x15] : List Value) ++ d6)) rfl Tryz.isAgg25 Tryz.sizeOf25 (by simp [hl0]) hx ?_)
   refine qq (qaw (v := .agg (([.slice none 0 0, .slice none 0 0, .int .i64 x14, .int .u32 x15] : List Value) ++ d6 ++ ([.int .i64 0] : List Value)).toArray) (by obtain ⟨f0, rfl⟩ := exL (l := d6) (n := 32) (by assumption); kernel_rfl) ?_)
   refine qq (qac rfl Tryz.zeroValue54 ?_)
   intro b5 w9 e1 e2; replace h := h b5 w9 e1 e2
   obtain ⟨hl, h1, hw, h⟩ := h
   refine qq (qbd (cs := (([.slice none 0 0, .slice none 0 0, .int .i64 x14, .int .u32 x15] : List Value) ++ d6 ++ ([.int .i64 0] : List Value))) rfl Tryz.sizeOf54 hl h1 hw ?_)
   intro w10 e1; replace h := h w10 e1
   refine qo (qz (wp_seq (qbj (Keep w10) [3] ?_)))
   intro w11 e1; have hK1 := keep_drew e1; replace h := h w11 e1
   obtain ⟨x16, A11, n11, c11, A12, n12, c12, hx, h⟩ := h
   refine qbn 0 rfl (qbx (cs := ([.int .i64 x16, .slice A11 n11 c11, .slice A12 n12 c12] : List Value)) rfl Tryz.isAgg37 Tryz.sizeOf37 (by simp []) (fun _ hk => keep_range hk hx)) hK1 ?_
   refine qbo 1 rfl (qbz (v := .slice A4 n4 c4)) (qbm 2 rfl (qai (args := #[.slice A4 n4 c4]) rfl Tryz.call26 (Ret.mono h ?_)))
   clear h; rintro r3 w12 ⟨A13, n13, c13, rfl, h⟩
   obtain ⟨hK2, h⟩ := h
   refine ⟨fun _ _ => hK2, ?_⟩
   refine qbm 3 rfl (qai (args := #[.agg #[.int .i64 x16, .slice A11 n11 c11, .slice A12 n12 c12], .slice A13 n13 c13]) rfl Tryz.call25 (Ret.mono h ?_))
   clear h; rintro r4 w13 ⟨A14, n14, c14, rfl, h⟩
   refine ⟨fun hh => absurd hh (by decide), ?_⟩
   refine qbo 4 rfl (qbz (v := .slice A14 n14 c14)) (qbk (qz (wp_seq (qx (qbt 1 ?_)))))
   obtain ⟨A15, n15, c15, hx, h⟩ := h
   refine qq (qap (v := .slice A15 n15 c15) rfl Tryz.isAgg30 hx ?_)
   refine qbt 1 ?_
   obtain ⟨h1, h2, h3, h⟩ := h
   refine qq (qas (kl := .i64) (kc := .i64) (l := (n15 : Int)) (c := (n15 : Int)) rfl Tryz.underlying59 Tryz.typeInfo25 rfl h1 h2 (by decide) h3 ?_)
   intro b6 w14 e1 e2; replace h := h b6 w14 e1 e2
   refine qbr (qz (wp_seq (qx (qbt 1 ?_))))
   obtain ⟨A16, n16, c16, hx, h⟩ := h
   refine qq (qap (v := .slice A16 n16 c16) rfl Tryz.isAgg30 hx ?_)
   refine qbt 1 ?_
   obtain ⟨h1, h2, h3, h⟩ := h
   refine qq (qas (kl := .i64) (kc := .i64) (l := (n16 : Int)) (c := (n16 : Int)) rfl Tryz.underlying90 Tryz.typeInfo4 rfl h1 h2 (by decide) h3 ?_)
   intro b7 w15 e1 e2; replace h := h b7 w15 e1 e2
   refine qbr (qz (wp_seq (wp_seq (qx (qbr (qz (wp_block ?_)))))))
   obtain ⟨I1, μ1, hI1, hB1⟩ := h
   refine wp_loop_st (σ := Int) (fun s a => ∃ u1 : Nat → Value, a = ⟨#[.agg d1.toArray, .int .u32 x1, .agg #[.int .i64 x2, .slice A1 n1 c1, .slice A2 n2 c2], .agg (([.int .i64 x3, .int .u32 x4] : List Value) ++ d2).toArray, .slice A3 n3 c3, .slice A4 n4 c4, .pointer (some ⟨b1, 0, none⟩), undef, .pointer (some ⟨b2, 0, none⟩), .pointer (some ⟨b3, 0, none⟩), undef, undef, .pointer (some ⟨b4, 0, none⟩), .pointer (some ⟨b5, 0, none⟩), .slice A14 n14 c14, .slice (some ⟨b6, 0, none⟩) (((n15 : Int)).toNat) (((n15 : Int)).toNat), .slice (some ⟨b7, 0, none⟩) (((n16 : Int)).toNat) (((n16 : Int)).toNat), .int .i64 s, u1 18, u1 19, u1 20, u1 21, u1 22, u1 23, u1 24, u1 25, u1 26, u1 27, u1 28, u1 29, u1 30, u1 31, u1 32, u1 33, u1 34, .agg #[.int .i64 x5, .slice A5 n5 c5, .slice A6 n6 c6], .slice A3 n3 c3, .slice A4 n4 c4, .bool q1, .bool (!q1), .bool false, .agg (([.int .i64 x9, .int .u32 x10] : List Value) ++ d4).toArray, .bool q2, .bool (!q2), .bool (!q2), undef, .agg (([.int .i64 x14, .int .u32 x15] : List Value) ++ d6).toArray, .agg (([.slice none 0 0, .slice none 0 0, .int .i64 x14, .int .u32 x15] : List Value) ++ d6 ++ ([.int .i64 0] : List Value)).toArray, .agg #[.int .i64 x16, .slice A11 n11 c11, .slice A12 n12 c12], .slice A4 n4 c4, .slice A13 n13 c13, .slice A14 n14 c14, .pointer (some ⟨b2, 1, none⟩), .slice A15 n15 c15, .int .i64 (n15 : Int), .slice (some ⟨b6, 0, none⟩) (((n15 : Int)).toNat) (((n15 : Int)).toNat), .pointer (some ⟨b2, 1, none⟩), .slice A16 n16 c16, .int .i64 (n16 : Int), .slice (some ⟨b7, 0, none⟩) (((n16 : Int)).toNat) (((n16 : Int)).toNat), u1 60, u1 61, u1 62, u1 63, u1 64, u1 65, u1 66, u1 67, u1 68, u1 69, u1 70, u1 71, u1 72, u1 73, u1 74, u1 75, u1 76, u1 77, u1 78, u1 79, u1 80, u1 81, u1 82, u1 83, u1 84, u1 85, u1 86, u1 87, u1 88, u1 89, u1 90, u1 91, u1 92, u1 93, u1 94, u1 95, u1 96, u1 97, u1 98, u1 99, u1 100, u1 101, u1 102, u1 103, u1 104, u1 105, u1 106, u1 107, u1 108, u1 109, u1 110, u1 111, u1 112, u1 113, u1 114, u1 115, u1 116, u1 117, u1 118, u1 119, u1 120, u1 121, u1 122, u1 123, u1 124, u1 125, u1 126, u1 127, u1 128, u1 129, u1 130, u1 131, u1 132, u1 133, u1 134, u1 135, u1 136, u1 137, u1 138, u1 139, u1 140, u1 141, u1 142, u1 143, u1 144, u1 145, u1 146, u1 147, u1 148, u1 149, u1 150, u1 151, u1 152, u1 153, u1 154, u1 155, u1 156, u1 157, u1 158, u1 159, u1 160, u1 161, u1 162, u1 163, u1 164, u1 165, u1 166, u1 167, u1 168, u1 169, u1 170, u1 171, u1 172, u1 173, u1 174, u1 175, u1 176, u1 177, u1 178, u1 179, u1 180, u1 181, u1 182, u1 183, u1 184, u1 185, u1 186, u1 187, u1 188, u1 189, u1 190, u1 191, u1 192, u1 193, u1 194, u1 195, u1 196, u1 197, u1 198, undef], []⟩) (fun s w => I1 s w) (fun s w => μ1 s w) (0) (qaa) hI1 ?_
   rintro x17 a w16 ⟨u1, rfl⟩ hI1
   have h := hB1 x17 w16 hI1
   refine wp_seq (wp_seq (qx (qbt 2 ?_)))
   obtain ⟨A17, n17, c17, hx, h⟩ := h
   refine qq (qap (v := .slice A17 n17 c17) rfl Tryz.isAgg30 hx ?_)
   refine qbr (qz (wp_cond_split (t := (decide (x17 < (n17 : Int)))) (by kernel_rfl) (fun hb => ?_) (fun hb => ?_)))
   ·replace h := h.1 (of_decide_eq_true hb)
    refine wp_skip (qz (wp_seq (wp_block (wp_seq (qx (qbr (qz ?_)))))))
    obtain ⟨J1, hJ1, h⟩ := h
    refine wp_seq_join (σ := (Option Addr) × Nat × Nat) (fun s vj1 => ⟨#[.agg d1.toArray, .int .u32 x1, .agg #[.int .i64 x2, .slice A1 n1 c1, .slice A2 n2 c2], .agg (([.int .i64 x3, .int .u32 x4] : List Value) ++ d2).toArray, .slice A3 n3 c3, .slice A4 n4 c4, .pointer (some ⟨b1, 0, none⟩), undef, .pointer (some ⟨b2, 0, none⟩), .pointer (some ⟨b3, 0, none⟩), undef, undef, .pointer (some ⟨b4, 0, none⟩), .pointer (some ⟨b5, 0, none⟩), .slice A14 n14 c14, .slice (some ⟨b6, 0, none⟩) (((n15 : Int)).toNat) (((n15 : Int)).toNat), .slice (some ⟨b7, 0, none⟩) (((n16 : Int)).toNat) (((n16 : Int)).toNat), .int .i64 x17, .slice s.1 s.2.1 s.2.2, vj1 19, vj1 20, vj1 21, vj1 22, vj1 23, vj1 24, u1 25, u1 26, u1 27, u1 28, u1 29, u1 30, u1 31, u1 32, u1 33, u1 34, .agg #[.int .i64 x5, .slice A5 n5 c5, .slice A6 n6 c6], .slice A3 n3 c3, .slice A4 n4 c4, .bool q1, .bool (!q1), .bool false, .agg (([.int .i64 x9, .int .u32 x10] : List Value) ++ d4).toArray, .bool q2, .bool (!q2), .bool (!q2), undef, .agg (([.int .i64 x14, .int .u32 x15] : List Value) ++ d6).toArray, .agg (([.slice none 0 0, .slice none 0 0, .int .i64 x14, .int .u32 x15] : List Value) ++ d6 ++ ([.int .i64 0] : List Value)).toArray, .agg #[.int .i64 x16, .slice A11 n11 c11, .slice A12 n12 c12], .slice A4 n4 c4, .slice A13 n13 c13, .slice A14 n14 c14, .pointer (some ⟨b2, 1, none⟩), .slice A15 n15 c15, .int .i64 (n15 : Int), .slice (some ⟨b6, 0, none⟩) (((n15 : Int)).toNat) (((n15 : Int)).toNat), .pointer (some ⟨b2, 1, none⟩), .slice A16 n16 c16, .int .i64 (n16 : Int), .slice (some ⟨b7, 0, none⟩) (((n16 : Int)).toNat) (((n16 : Int)).toNat), .int .i64 x17, .pointer (some ⟨b2, 1, none⟩), .slice A17 n17 c17, .int .i64 (n17 : Int), .bool (decide (x17 < (n17 : Int))), u1 65, u1 66, .slice A4 n4 c4, vj1 68, .int .i64 x17, vj1 70, vj1 71, vj1 72, vj1 73, vj1 74, vj1 75, vj1 76, vj1 77, vj1 78, vj1 79, vj1 80, vj1 81, vj1 82, vj1 83, vj1 84, vj1 85, vj1 86, vj1 87, vj1 88, vj1 89, vj1 90, vj1 91, vj1 92, vj1 93, vj1 94, vj1 95, vj1 96, vj1 97, vj1 98, vj1 99, vj1 100, vj1 101, vj1 102, vj1 103, vj1 104, vj1 105, vj1 106, vj1 107, vj1 108, vj1 109, vj1 110, vj1 111, vj1 112, vj1 113, vj1 114, vj1 115, vj1 116, vj1 117, vj1 118, vj1 119, vj1 120, vj1 121, vj1 122, vj1 123, vj1 124, vj1 125, vj1 126, vj1 127, vj1 128, vj1 129, vj1 130, vj1 131, vj1 132, vj1 133, vj1 134, vj1 135, vj1 136, vj1 137, vj1 138, u1 139, u1 140, u1 141, u1 142, u1 143, u1 144, u1 145, u1 146, u1 147, u1 148, u1 149, u1 150, u1 151, u1 152, u1 153, u1 154, u1 155, u1 156, u1 157, u1 158, u1 159, u1 160, u1 161, u1 162, u1 163, u1 164, u1 165, u1 166, u1 167, u1 168, u1 169, u1 170, u1 171, u1 172, u1 173, u1 174, u1 175, u1 176, u1 177, u1 178, u1 179, u1 180, u1 181, u1 182, u1 183, u1 184, u1 185, u1 186, u1 187, u1 188, u1 189, u1 190, u1 191, u1 192, u1 193, u1 194, u1 195, u1 196, u1 197, u1 198, undef], []⟩) (fun s w => J1 s.1 s.2.1 s.2.2 w) ?_ ?_
    ·clear h; rintro ⟨A19, n19, c19⟩ vj1 w17 hj
     have h := hJ1 A19 n19 c19 w17 hj
     refine wp_seq (qx ?_)
     obtain ⟨x18, x19, d7, hl0, hx, h⟩ := h
     refine qq (qaq (cs := (([.int .i64 x18, .int .u32 x19] : List Value) ++ d7)) rfl Tryz.isAgg25 Tryz.sizeOf25 (by simp [hl0]) hx ?_)
     refine qq (qac rfl Tryz.zeroValue25 ?_)
     intro b8 w18 e1 e2; replace h := h b8 w18 e1 e2
     obtain ⟨hl, h1, hw, h⟩ := h
     refine qq (qbd (cs := (([.int .i64 x18, .int .u32 x19] : List Value) ++ d7)) rfl Tryz.sizeOf25 hl h1 hw ?_)
     intro w19 e1; replace h := h w19 e1
     refine qo (qz ?_)
     obtain ⟨J2, hJ2, h⟩ := h
     refine wp_seq_join (σ := Unit) (fun s vj2 => ⟨#[.agg d1.toArray, .int .u32 x1, .agg #[.int .i64 x2, .slice A1 n1 c1, .slice A2 n2 c2], .agg (([.int .i64 x3, .int .u32 x4] : List Value) ++ d2).toArray, .slice A3 n3 c3, .slice A4 n4 c4, .pointer (some ⟨b1, 0, none⟩), undef, .pointer (some ⟨b2, 0, none⟩), .pointer (some ⟨b3, 0, none⟩), undef, undef, .pointer (some ⟨b4, 0, none⟩), .pointer (some ⟨b5, 0, none⟩), .slice A14 n14 c14, .slice (some ⟨b6, 0, none⟩) (((n15 : Int)).toNat) (((n15 : Int)).toNat), .slice (some ⟨b7, 0, none⟩) (((n16 : Int)).toNat) (((n16 : Int)).toNat), .int .i64 x17, .slice A19 n19 c19, vj1 19, vj1 20, vj1 21, vj1 22, vj1 23, vj1 24, .pointer (some ⟨b8, 0, none⟩), vj2 26, vj2 27, vj2 28, vj2 29, vj2 30, u1 31, u1 32, u1 33, u1 34, .agg #[.int .i64 x5, .slice A5 n5 c5, .slice A6 n6 c6], .slice A3 n3 c3, .slice A4 n4 c4, .bool q1, .bool (!q1), .bool false, .agg (([.int .i64 x9, .int .u32 x10] : List Value) ++ d4).toArray, .bool q2, .bool (!q2), .bool (!q2), undef, .agg (([.int .i64 x14, .int .u32 x15] : List Value) ++ d6).toArray, .agg (([.slice none 0 0, .slice none 0 0, .int .i64 x14, .int .u32 x15] : List Value) ++ d6 ++ ([.int .i64 0] : List Value)).toArray, .agg #[.int .i64 x16, .slice A11 n11 c11, .slice A12 n12 c12], .slice A4 n4 c4, .slice A13 n13 c13, .slice A14 n14 c14, .pointer (some ⟨b2, 1, none⟩), .slice A15 n15 c15, .int .i64 (n15 : Int), .slice (some ⟨b6, 0, none⟩) (((n15 : Int)).toNat) (((n15 : Int)).toNat), .pointer (some ⟨b2, 1, none⟩), .slice A16 n16 c16, .int .i64 (n16 : Int), .slice (some ⟨b7, 0, none⟩) (((n16 : Int)).toNat) (((n16 : Int)).toNat), .int .i64 x17, .pointer (some ⟨b2, 1, none⟩), .slice A17 n17 c17, .int .i64 (n17 : Int), .bool (decide (x17 < (n17 : Int))), u1 65, u1 66, .slice A4 n4 c4, vj1 68, .int .i64 x17, vj1 70, vj1 71, vj1 72, vj1 73, vj1 74, vj1 75, vj1 76, vj1 77, vj1 78, vj1 79, vj1 80, vj1 81, vj1 82, vj1 83, vj1 84, vj1 85, vj1 86, vj1 87, vj1 88, vj1 89, vj1 90, vj1 91, vj1 92, vj1 93, vj1 94, vj1 95, vj1 96, vj1 97, vj1 98, vj1 99, vj1 100, vj1 101, vj1 102, vj1 103, vj1 104, vj1 105, vj1 106, vj1 107, vj1 108, vj1 109, vj1 110, vj1 111, vj1 112, vj1 113, vj1 114, vj1 115, vj1 116, vj1 117, vj1 118, vj1 119, vj1 120, vj1 121, vj1 122, vj1 123, vj1 124, vj1 125, vj1 126, vj1 127, vj1 128, vj1 129, vj1 130, vj1 131, vj1 132, vj1 133, vj1 134, vj1 135, vj1 136, vj1 137, vj1 138, .agg (([.int .i64 x18, .int .u32 x19] : List Value) ++ d7).toArray, vj2 140, vj2 141, .int .i64 x17, vj2 143, vj2 144, vj2 145, vj2 146, vj2 147, vj2 148, vj2 149, vj2 150, vj2 151, vj2 152, vj2 153, vj2 154, vj2 155, vj2 156, vj2 157, u1 158, u1 159, u1 160, u1 161, u1 162, u1 163, u1 164, u1 165, u1 166, u1 167, u1 168, u1 169, u1 170, u1 171, u1 172, u1 173, u1 174, u1 175, u1 176, u1 177, u1 178, u1 179, u1 180, u1 181, u1 182, u1 183, u1 184, u1 185, u1 186, u1 187, u1 188, u1 189, u1 190, u1 191, u1 192, u1 193, u1 194, u1 195, u1 196, u1 197, u1 198, undef], []⟩) (fun s w => J2 w) ?_ ?_
     ·clear h; rintro _ vj2 w20 hj
      have h := hJ2 w20 hj
      refine wp_seq (qx ?_)
      obtain ⟨x20, A20, n20, c20, A21, n21, c21, hx, h⟩ := h
      refine qq (qaq (cs := ([.int .i64 x20, .slice A20 n20 c20, .slice A21 n21 c21] : List Value)) rfl Tryz.isAgg37 Tryz.sizeOf37 (by simp []) hx ?_)
      refine qbt 2 ?_
      obtain ⟨x21, hx, h⟩ := h
      refine qq (qap (v := .int .i64 x21) rfl Tryz.isAgg3 hx ?_)
      refine qbt 1 (qq (qai (args := #[.agg #[.int .i64 x20, .slice A20 n20 c20, .slice A21 n21 c21], .int .i64 x17, .int .i64 (IntKind.i64.wrap (1 - x21))]) rfl Tryz.call32 (Ret.mono h ?_)))
      clear h; rintro r5 w21 ⟨x22, rfl, h⟩
      refine qbr (qz (wp_seq (qx ?_)))
      obtain ⟨d8, hl0, hx, h⟩ := h
      refine qq (qaq (cs := d8) rfl Tryz.isAgg22 Tryz.sizeOf22 (by simp [hl0]) hx ?_)
      refine qbt 2 ?_
      obtain ⟨x23, hx, h⟩ := h
      refine qq (qap (v := .int .i64 x23) rfl Tryz.isAgg3 hx ?_)
      refine qbt 3 (qq (qai (args := #[.agg d8.toArray, .int .u32 x1, .int .i64 (IntKind.i64.wrap (1 - x23)), .int .i64 x22, .slice A19 n19 c19]) rfl Tryz.call33 (Ret.mono h ?_)))
      clear h; rintro r6 w22 ⟨A22, n22, c22, x24, x25, d9, x26, rfl, hl0, h⟩
      refine qbt 4 (qq (qac rfl Tryz.zeroValue25 ?_))
      intro b9 w23 e1 e2; replace h := h b9 w23 e1 e2
      refine qbt 1 ?_
      obtain ⟨hl, h1, hw, h⟩ := h
      refine qq (qbd (cs := (([.int .i64 x24, .int .u32 x25] : List Value) ++ d9)) rfl Tryz.sizeOf25 hl h1 hw ?_)
      intro w24 e1; replace h := h w24 e1
      refine qbr (qz (wp_seq (qx (qbt 1 ?_))))
      obtain ⟨A23, n23, c23, hx, h⟩ := h
      refine qq (qap (v := .slice A23 n23 c23) rfl Tryz.isAgg52 hx ?_)
      refine qbt 3 (qq (qag (cs := ([.int .i64 x22, .slice A22 n22 c22] : List Value)) rfl Tryz.underlying52 Tryz.sizeOf102 Tryz.zeroValue102 (by kernel_rfl) (by decide) (by decide) ?_))
      intro b10 w25 e1 e2; replace h := h b10 w25 e1 e2
      obtain ⟨l1, l2, h1, h2, h3, h4, h5, h6, h7, h⟩ := h
      refine qq (qad (A := A23) (n := n23) (c := c23) (B := (some ⟨b10, 0, none⟩)) (m := 1) (c2 := 1) (olds := l1) (news := l2) rfl Tryz.underlying52 Tryz.underlying52 Tryz.typeInfo102 rfl (by decide) h1 h2 h3 h4 h5 h6 h7 ?_)
      intro A24 c24 w26 e1; replace h := h A24 c24 w26 e1
      refine qbt 1 ?_
      obtain ⟨hc, hf, h⟩ := h
      refine qq (qbc (v := .slice A24 (n23 + 1) c24) rfl Tryz.sizeOf52 rfl hc hf ?_)
      intro w27 e1; replace h := h w27 e1
      refine qo (qz (wp_seq (qx (qbt 4 ?_))))
      obtain ⟨x27, x28, d10, hl0, hx, h⟩ := h
      refine qq (qaq (cs := (([.int .i64 x27, .int .u32 x28] : List Value) ++ d10)) rfl Tryz.isAgg25 Tryz.sizeOf25 (by simp [hl0]) hx ?_)
      obtain ⟨h1, h2, h⟩ := h
      refine qq (qan (k := .i64) (j := x17) (b := b6) (off := 0) (n := ((n15 : Int)).toNat) (c := ((n15 : Int)).toNat) rfl Tryz.underlying59 Tryz.sizeOf25 h1 h2 ?_)
      obtain ⟨hl, h1, hw, h⟩ := h
      refine qq (qbd (cs := (([.int .i64 x27, .int .u32 x28] : List Value) ++ d10)) rfl Tryz.sizeOf25 hl h1 hw ?_)
      intro w28 e1; replace h := h w28 e1
      obtain ⟨h1, h2, h⟩ := h
      refine qq (qan (k := .i64) (j := x17) (b := b7) (off := 0) (n := ((n16 : Int)).toNat) (c := ((n16 : Int)).toNat) rfl Tryz.underlying90 Tryz.sizeOf4 h1 h2 ?_)
      obtain ⟨hc, hf, h⟩ := h
      refine qq (qbc (v := .bool true) rfl Tryz.sizeOf4 rfl hc hf ?_)
      intro w29 e1; replace h := h w29 e1
      refine qo (qz (wp_seq (qx (qbt 2 ?_))))
      obtain ⟨A25, n24, c25, hx, h⟩ := h
      refine qq (qap (v := .slice A25 n24 c25) rfl Tryz.isAgg30 hx ?_)
      refine qbr (qz (wp_cond_split (t := (x17 == (IntKind.i64.wrap ((n24 : Int) - 1)))) (by kernel_rfl) (fun hb => ?_) (fun hb => ?_)))
      ·replace h := h.1 (eq_of_beq hb)
       refine qx ?_
       obtain ⟨x29, x30, d11, hl0, hx, h⟩ := h
       refine qq (qaq (cs := (([.int .i64 x29, .int .u32 x30] : List Value) ++ d11)) rfl Tryz.isAgg25 Tryz.sizeOf25 (by simp [hl0]) hx ?_)
       refine qbt 1 ?_
       obtain ⟨hl, h1, hw, h⟩ := h
       refine qq (qbd (cs := (([.int .i64 x29, .int .u32 x30] : List Value) ++ d11)) rfl Tryz.sizeOf25 hl h1 hw ?_)
       intro w30 e1; replace h := h w30 e1
       refine qo (qu (qz (qx (qbr (qz ?_)))))
       exact ⟨((IntKind.i64.wrap (x17 + 1))), qaa, h.1, h.2⟩
      ·replace h := h.2 (ne_of_beq_false hb)
       refine wp_skip (qu (qz (qx (qbr (qz ?_)))))
       exact ⟨((IntKind.i64.wrap (x17 + 1))), qaa, h.1, h.2⟩
     ·clear hJ2
      refine wp_seq (qx ?_)
      obtain ⟨x31, A26, n25, c26, A27, n26, c27, hx, h⟩ := h
      refine qq (qaq (cs := ([.int .i64 x31, .slice A26 n25 c26, .slice A27 n26 c27] : List Value)) rfl Tryz.isAgg37 Tryz.sizeOf37 (by simp []) hx ?_)
      refine qbt 1 (qq (qai (args := #[.agg #[.int .i64 x31, .slice A26 n25 c26, .slice A27 n26 c27], .int .i64 x17]) rfl Tryz.call31 (Ret.mono h ?_)))
      clear h; rintro r7 w31 ⟨x32, x33, q3, rfl, h⟩
      refine qbr (qz (wp_seq (qx (qbr (qz (wp_cond_split (t := q3) (by kernel_rfl) (fun hb => ?_) (fun hb => ?_)))))))
      ·replace h := h.1 (hb)
       refine wp_seq (qx (qbt 2 (qq (qai (args := #[.slice A3 n3 c3, .int .i64 x32]) rfl Tryz.call28 (Ret.mono h ?_)))))
       clear h; rintro r8 w32 ⟨A28, n27, c28, q4, rfl, h⟩
       refine qbr (qz (qx (qbt 2 ?_)))
       obtain ⟨b11, o1, rfl, h⟩ := h
       obtain ⟨h1, h2, h⟩ := h
       refine qq (qan (k := .i64) (j := x33) (b := b11) (off := o1) (n := n27) (c := c28) rfl Tryz.underlying59 Tryz.sizeOf25 h1 h2 ?_)
       obtain ⟨x34, x35, d12, hl0, hx, h⟩ := h
       refine qq (qaq (cs := (([.int .i64 x34, .int .u32 x35] : List Value) ++ d12)) rfl Tryz.isAgg25 Tryz.sizeOf25 (by simp [hl0]) hx ?_)
       obtain ⟨hl, h1, hw, h⟩ := h
       refine qq (qbd (cs := (([.int .i64 x34, .int .u32 x35] : List Value) ++ d12)) rfl Tryz.sizeOf25 hl h1 hw ?_)
       intro w33 e1; replace h := h w33 e1
       refine qo (qz ?_)
       exact ⟨(), h, qaa⟩
      ·replace h := h.2 (hb)
       refine wp_skip (qz ?_)
       exact ⟨(), h, qaa⟩
    ·clear hJ1
     refine wp_seq (qx (qbt 1 (qq (qai (args := #[.slice A4 n4 c4]) rfl Tryz.call26 (Ret.mono h ?_)))))
     clear h; rintro r9 w34 ⟨A29, n28, c29, rfl, h⟩
     refine qbt 1 (qq (qai (args := #[.slice A29 n28 c29, .int .i64 x17]) rfl Tryz.call27 (Ret.mono h ?_)))
     clear h; rintro r10 w35 ⟨q5, rfl, h⟩
     refine qo (qz (wp_cond_split (t := q5) (by kernel_rfl) (fun hb => ?_) (fun hb => ?_)))
     ·replace h := h.1 (hb)
      refine wp_seq (qx (qbr (qz (wp_block ?_))))
      obtain ⟨I2, μ2, hI2, hB2⟩ := h
      refine wp_loop_st (σ := (Option Addr) × Nat × Nat × Int) (fun s a => ∃ u2 : Nat → Value, a = ⟨#[.agg d1.toArray, .int .u32 x1, .agg #[.int .i64 x2, .slice A1 n1 c1, .slice A2 n2 c2], .agg (([.int .i64 x3, .int .u32 x4] : List Value) ++ d2).toArray, .slice A3 n3 c3, .slice A4 n4 c4, .pointer (some ⟨b1, 0, none⟩), undef, .pointer (some ⟨b2, 0, none⟩), .pointer (some ⟨b3, 0, none⟩), undef, undef, .pointer (some ⟨b4, 0, none⟩), .pointer (some ⟨b5, 0, none⟩), .slice A14 n14 c14, .slice (some ⟨b6, 0, none⟩) (((n15 : Int)).toNat) (((n15 : Int)).toNat), .slice (some ⟨b7, 0, none⟩) (((n16 : Int)).toNat) (((n16 : Int)).toNat), .int .i64 x17, .slice s.1 s.2.1 s.2.2.1, .int .i64 s.2.2.2, u1 20, u1 21, u1 22, u1 23, u1 24, u1 25, u1 26, u1 27, u1 28, u1 29, u1 30, u1 31, u1 32, u1 33, u1 34, .agg #[.int .i64 x5, .slice A5 n5 c5, .slice A6 n6 c6], .slice A3 n3 c3, .slice A4 n4 c4, .bool q1, .bool (!q1), .bool false, .agg (([.int .i64 x9, .int .u32 x10] : List Value) ++ d4).toArray, .bool q2, .bool (!q2), .bool (!q2), undef, .agg (([.int .i64 x14, .int .u32 x15] : List Value) ++ d6).toArray, .agg (([.slice none 0 0, .slice none 0 0, .int .i64 x14, .int .u32 x15] : List Value) ++ d6 ++ ([.int .i64 0] : List Value)).toArray, .agg #[.int .i64 x16, .slice A11 n11 c11, .slice A12 n12 c12], .slice A4 n4 c4, .slice A13 n13 c13, .slice A14 n14 c14, .pointer (some ⟨b2, 1, none⟩), .slice A15 n15 c15, .int .i64 (n15 : Int), .slice (some ⟨b6, 0, none⟩) (((n15 : Int)).toNat) (((n15 : Int)).toNat), .pointer (some ⟨b2, 1, none⟩), .slice A16 n16 c16, .int .i64 (n16 : Int), .slice (some ⟨b7, 0, none⟩) (((n16 : Int)).toNat) (((n16 : Int)).toNat), .int .i64 x17, .pointer (some ⟨b2, 1, none⟩), .slice A17 n17 c17, .int .i64 (n17 : Int), .bool (decide (x17 < (n17 : Int))), u1 65, u1 66, .slice A4 n4 c4, .slice A29 n28 c29, .int .i64 x17, .bool q5, u2 71, u2 72, u2 73, u2 74, u2 75, u2 76, u2 77, u2 78, u2 79, u2 80, u2 81, u2 82, u2 83, u2 84, u2 85, u2 86, u2 87, u2 88, u1 89, u1 90, u1 91, u1 92, u1 93, u1 94, u1 95, u1 96, u1 97, u1 98, u1 99, u1 100, u1 101, u1 102, u1 103, u1 104, u1 105, u1 106, u1 107, u1 108, u1 109, u1 110, u1 111, u1 112, u1 113, u1 114, u1 115, u1 116, u1 117, u1 118, u1 119, u1 120, u1 121, u1 122, u1 123, u1 124, u1 125, u1 126, u1 127, u1 128, u1 129, u1 130, u1 131, u1 132, u1 133, u1 134, u1 135, u1 136, u1 137, u1 138, u1 139, u1 140, u1 141, u1 142, u1 143, u1 144, u1 145, u1 146, u1 147, u1 148, u1 149, u1 150, u1 151, u1 152, u1 153, u1 154, u1 155, u1 156, u1 157, u1 158, u1 159, u1 160, u1 161, u1 162, u1 163, u1 164, u1 165, u1 166, u1 167, u1 168, u1 169, u1 170, u1 171, u1 172, u1 173, u1 174, u1 175, u1 176, u1 177, u1 178, u1 179, u1 180, u1 181, u1 182, u1 183, u1 184, u1 185, u1 186, u1 187, u1 188, u1 189, u1 190, u1 191, u1 192, u1 193, u1 194, u1 195, u1 196, u1 197, u1 198, undef], []⟩) (fun s w => I2 s.1 s.2.1 s.2.2.1 s.2.2.2 w) (fun s w => μ2 s.1 s.2.1 s.2.2.1 s.2.2.2 w) (none, 0, 0, 0) (qaa) hI2 ?_
      rintro ⟨A30, n29, c30, x36⟩ a w36 ⟨u2, rfl⟩ hI2
      have h := hB2 A30 n29 c30 x36 w36 hI2
      refine wp_seq (wp_seq (qx (qbr (qz (wp_cond_split (t := (decide (x36 < (n4 : Int)))) (by kernel_rfl) (fun hb => ?_) (fun hb => ?_))))))
      ·replace h := h.1 (of_decide_eq_true hb)
       refine wp_skip (qz (wp_seq (wp_block (wp_seq (qx (qbt 2 ?_))))))
       obtain ⟨b12, o2, rfl, h⟩ := h
       obtain ⟨h1, h2, h⟩ := h
       refine qq (qan (k := .i64) (j := x36) (b := b12) (off := o2) (n := n4) (c := c4) rfl Tryz.underlying29 Tryz.sizeOf64 h1 h2 ?_)
       refine qbt 1 ?_
       obtain ⟨x37, hx, h⟩ := h
       refine qq (qap (v := .int .i64 x37) rfl Tryz.isAgg3 hx ?_)
       refine qbr (qz (wp_cond_split (t := (x37 == x17)) (by kernel_rfl) (fun hb => ?_) (fun hb => ?_)))
       ·replace h := h.1 (eq_of_beq hb)
        refine qx (qbt 2 ?_)
        obtain ⟨h1, h2, h⟩ := h
        refine qq (qan (k := .i64) (j := x36) (b := b12) (off := o2) (n := n4) (c := c4) rfl Tryz.underlying29 Tryz.sizeOf64 h1 h2 ?_)
        refine qbt 1 ?_
        obtain ⟨A31, n30, c31, hx, h⟩ := h
        refine qq (qap (v := .slice A31 n30 c31) rfl Tryz.isAgg62 hx ?_)
        refine qbr (qu (qz (qx (qbr (qz ?_)))))
        exact ⟨(A31, n30, c31, (IntKind.i64.wrap (x36 + 1))), qaa, h.1, h.2⟩
       ·replace h := h.2 (ne_of_beq_false hb)
        refine wp_skip (qu (qz (qx (qbr (qz ?_)))))
        exact ⟨(A30, n29, c30, (IntKind.i64.wrap (x36 + 1))), qaa, h.1, h.2⟩
      ·replace h := h.2 (of_decide_eq_false hb)
       refine wp_exit (qr (qr (block_exit_eq (qz ?_))))
       exact ⟨(A30, n29, c30), h, qaa⟩
     ·replace h := h.2 (hb)
      refine wp_seq (qx (qbt 2 (qq (qai (args := #[.slice A14 n14 c14, .int .i64 x17]) rfl Tryz.call27 (Ret.mono h ?_)))))
      clear h; rintro r11 w37 ⟨q6, rfl, h⟩
      refine qo (qz (wp_cond_split (t := q6) (by kernel_rfl) (fun hb => ?_) (fun hb => ?_)))
      ·replace h := h.1 (hb)
       refine wp_seq (qx (qbt 2 (qq (qai (args := #[.slice A3 n3 c3, .int .i64 x17]) rfl Tryz.call28 (Ret.mono h ?_)))))
       clear h; rintro r12 w38 ⟨A32, n31, c32, q7, rfl, h⟩
       refine qbr (qz (wp_seq (qx (qbt 1 ?_))))
       obtain ⟨l3, l4, h1, h2, h3, h4, h5, h6, h7, h⟩ := h
       refine qq (qad (A := none) (n := 0) (c := 0) (B := A32) (m := n31) (c2 := c32) (olds := l3) (news := l4) rfl Tryz.underlying59 Tryz.underlying59 Tryz.typeInfo25 rfl (by decide) h1 h2 h3 h4 h5 h6 h7 ?_)
       intro A33 c33 w39 e1; replace h := h A33 c33 w39 e1
       refine qbr (qz (wp_seq (qx ?_)))
       obtain ⟨x38, A34, n32, c34, A35, n33, c35, hx, h⟩ := h
       refine qq (qaq (cs := ([.int .i64 x38, .slice A34 n32 c34, .slice A35 n33 c35] : List Value)) rfl Tryz.isAgg37 Tryz.sizeOf37 (by simp []) hx ?_)
       refine qbt 1 (qq (qai (args := #[.agg #[.int .i64 x38, .slice A34 n32 c34, .slice A35 n33 c35], .int .i64 x17]) rfl Tryz.call29 (Ret.mono h ?_)))
       clear h; rintro r13 w40 ⟨A36, n34, c36, rfl, h⟩
       refine qbr (qz (wp_seq (wp_seq (qx (qbr (qz (wp_block ?_)))))))
       obtain ⟨I3, μ3, hI3, hB3⟩ := h
       refine wp_loop_st (σ := Int) (fun s a => ∃ u3 : Nat → Value, a = ⟨#[.agg d1.toArray, .int .u32 x1, .agg #[.int .i64 x2, .slice A1 n1 c1, .slice A2 n2 c2], .agg (([.int .i64 x3, .int .u32 x4] : List Value) ++ d2).toArray, .slice A3 n3 c3, .slice A4 n4 c4, .pointer (some ⟨b1, 0, none⟩), undef, .pointer (some ⟨b2, 0, none⟩), .pointer (some ⟨b3, 0, none⟩), undef, undef, .pointer (some ⟨b4, 0, none⟩), .pointer (some ⟨b5, 0, none⟩), .slice A14 n14 c14, .slice (some ⟨b6, 0, none⟩) (((n15 : Int)).toNat) (((n15 : Int)).toNat), .slice (some ⟨b7, 0, none⟩) (((n16 : Int)).toNat) (((n16 : Int)).toNat), .int .i64 x17, .slice none 0 0, u1 19, .slice A32 n31 c32, .bool q7, .slice A33 (0 + n31) c33, .slice A36 n34 c36, .int .i64 s, u1 25, u1 26, u1 27, u1 28, u1 29, u1 30, u1 31, u1 32, u1 33, u1 34, .agg #[.int .i64 x5, .slice A5 n5 c5, .slice A6 n6 c6], .slice A3 n3 c3, .slice A4 n4 c4, .bool q1, .bool (!q1), .bool false, .agg (([.int .i64 x9, .int .u32 x10] : List Value) ++ d4).toArray, .bool q2, .bool (!q2), .bool (!q2), undef, .agg (([.int .i64 x14, .int .u32 x15] : List Value) ++ d6).toArray, .agg (([.slice none 0 0, .slice none 0 0, .int .i64 x14, .int .u32 x15] : List Value) ++ d6 ++ ([.int .i64 0] : List Value)).toArray, .agg #[.int .i64 x16, .slice A11 n11 c11, .slice A12 n12 c12], .slice A4 n4 c4, .slice A13 n13 c13, .slice A14 n14 c14, .pointer (some ⟨b2, 1, none⟩), .slice A15 n15 c15, .int .i64 (n15 : Int), .slice (some ⟨b6, 0, none⟩) (((n15 : Int)).toNat) (((n15 : Int)).toNat), .pointer (some ⟨b2, 1, none⟩), .slice A16 n16 c16, .int .i64 (n16 : Int), .slice (some ⟨b7, 0, none⟩) (((n16 : Int)).toNat) (((n16 : Int)).toNat), .int .i64 x17, .pointer (some ⟨b2, 1, none⟩), .slice A17 n17 c17, .int .i64 (n17 : Int), .bool (decide (x17 < (n17 : Int))), u1 65, u1 66, .slice A4 n4 c4, .slice A29 n28 c29, .int .i64 x17, .bool q5, u1 71, u1 72, u1 73, u1 74, u1 75, u1 76, u1 77, u1 78, u1 79, u1 80, u1 81, u1 82, u1 83, u1 84, u1 85, u1 86, u1 87, u1 88, .slice A14 n14 c14, .int .i64 x17, .bool q6, .tuple #[.slice A32 n31 c32, .bool q7], .slice A3 n3 c3, .int .i64 x17, .tuple #[.slice A32 n31 c32, .bool q7], .slice A32 n31 c32, .bool q7, .slice A32 n31 c32, .slice A33 (0 + n31) c33, .agg #[.int .i64 x38, .slice A34 n32 c34, .slice A35 n33 c35], .int .i64 x17, .slice A36 n34 c36, u3 103, u3 104, u3 105, u3 106, u3 107, u3 108, u3 109, u3 110, u3 111, u3 112, u3 113, u3 114, u3 115, u3 116, u3 117, u3 118, u3 119, u3 120, u3 121, u3 122, u3 123, u3 124, u3 125, u1 126, u1 127, u1 128, u1 129, u1 130, u1 131, u1 132, u1 133, u1 134, u1 135, u1 136, u1 137, u1 138, u1 139, u1 140, u1 141, u1 142, u1 143, u1 144, u1 145, u1 146, u1 147, u1 148, u1 149, u1 150, u1 151, u1 152, u1 153, u1 154, u1 155, u1 156, u1 157, u1 158, u1 159, u1 160, u1 161, u1 162, u1 163, u1 164, u1 165, u1 166, u1 167, u1 168, u1 169, u1 170, u1 171, u1 172, u1 173, u1 174, u1 175, u1 176, u1 177, u1 178, u1 179, u1 180, u1 181, u1 182, u1 183, u1 184, u1 185, u1 186, u1 187, u1 188, u1 189, u1 190, u1 191, u1 192, u1 193, u1 194, u1 195, u1 196, u1 197, u1 198, undef], []⟩) (fun s w => I3 s w) (fun s w => μ3 s w) (0) (qaa) hI3 ?_
       rintro x39 a w41 ⟨u3, rfl⟩ hI3
       have h := hB3 x39 w41 hI3
       refine wp_seq (wp_seq (qx (qbr (qz (wp_cond_split (t := (decide (x39 < (n34 : Int)))) (by kernel_rfl) (fun hb => ?_) (fun hb => ?_))))))
       ·replace h := h.1 (of_decide_eq_true hb)
        refine wp_skip (qz (wp_seq (wp_block (wp_seq (qx (qbt 3 ?_))))))
        obtain ⟨b13, o3, rfl, h⟩ := h
        obtain ⟨h1, h2, h⟩ := h
        refine qq (qan (k := .i64) (j := x39) (b := b13) (off := o3) (n := n34) (c := c36) rfl Tryz.underlying30 Tryz.sizeOf3 h1 h2 ?_)
        obtain ⟨x40, hx, h⟩ := h
        refine qq (qap (v := .int .i64 x40) rfl Tryz.isAgg3 hx ?_)
        obtain ⟨h1, h2, h⟩ := h
        refine qq (qan (k := .i64) (j := x40) (b := b7) (off := 0) (n := ((n16 : Int)).toNat) (c := ((n16 : Int)).toNat) rfl Tryz.underlying90 Tryz.sizeOf4 h1 h2 ?_)
        obtain ⟨q8, hx, h⟩ := h
        refine qq (qap (v := .bool q8) rfl Tryz.isAgg4 hx ?_)
        refine qo (qz (wp_cond_split (t := q8) (by kernel_rfl) (fun hb => ?_) (fun hb => ?_)))
        ·replace h := h.1 (hb)
         refine qx (qbt 5 ?_)
         obtain ⟨h1, h2, h⟩ := h
         refine qq (qan (k := .i64) (j := x39) (b := b13) (off := o3) (n := n34) (c := c36) rfl Tryz.underlying30 Tryz.sizeOf3 h1 h2 ?_)
         obtain ⟨x41, hx, h⟩ := h
         refine qq (qap (v := .int .i64 x41) rfl Tryz.isAgg3 hx ?_)
         obtain ⟨h1, h2, h⟩ := h
         refine qq (qan (k := .i64) (j := x41) (b := b6) (off := 0) (n := ((n15 : Int)).toNat) (c := ((n15 : Int)).toNat) rfl Tryz.underlying59 Tryz.sizeOf25 h1 h2 ?_)
         obtain ⟨x42, x43, d13, hl0, hx, h⟩ := h
         refine qq (qaq (cs := (([.int .i64 x42, .int .u32 x43] : List Value) ++ d13)) rfl Tryz.isAgg25 Tryz.sizeOf25 (by simp [hl0]) hx ?_)
         obtain ⟨b14, o4, rfl, h⟩ := h
         obtain ⟨h1, h2, h⟩ := h
         refine qq (qan (k := .i64) (j := x39) (b := b14) (off := o4) (n := (0 + n31)) (c := c33) rfl Tryz.underlying59 Tryz.sizeOf25 h1 h2 ?_)
         obtain ⟨hl, h1, hw, h⟩ := h
         refine qq (qbd (cs := (([.int .i64 x42, .int .u32 x43] : List Value) ++ d13)) rfl Tryz.sizeOf25 hl h1 hw ?_)
         intro w42 e1; replace h := h w42 e1
         refine qo (qu (qz (qx (qbr (qz ?_)))))
         exact ⟨((IntKind.i64.wrap (x39 + 1))), qaa, h.1, h.2⟩
        ·replace h := h.2 (hb)
         refine wp_skip (qu (qz (qx (qbr (qz ?_)))))
         exact ⟨((IntKind.i64.wrap (x39 + 1))), qaa, h.1, h.2⟩
       ·replace h := h.2 (of_decide_eq_false hb)
        refine wp_exit (qr (qr (block_exit_eq (qz (wp_seq (qx (qbt 1 ?_)))))))
        obtain ⟨A37, n35, c37, hx, h⟩ := h
        refine qq (qap (v := .slice A37 n35 c37) rfl Tryz.isAgg28 hx ?_)
        refine qbt 3 (qq (qag (cs := ([.int .i64 x17, .slice A33 (0 + n31) c33] : List Value)) rfl Tryz.underlying28 Tryz.sizeOf61 Tryz.zeroValue61 (by kernel_rfl) (by decide) (by decide) ?_))
        intro b15 w43 e1 e2; replace h := h b15 w43 e1 e2
        obtain ⟨l5, l6, h1, h2, h3, h4, h5, h6, h7, h⟩ := h
        refine qq (qad (A := A37) (n := n35) (c := c37) (B := (some ⟨b15, 0, none⟩)) (m := 1) (c2 := 1) (olds := l5) (news := l6) rfl Tryz.underlying28 Tryz.underlying28 Tryz.typeInfo61 rfl (by decide) h1 h2 h3 h4 h5 h6 h7 ?_)
        intro A38 c38 w44 e1; replace h := h A38 c38 w44 e1
        refine qbt 1 ?_
        obtain ⟨hc, hf, h⟩ := h
        refine qq (qbc (v := .slice A38 (n35 + 1) c38) rfl Tryz.sizeOf28 rfl hc hf ?_)
        intro w45 e1; replace h := h w45 e1
        refine qo (qz (qx (qbt 1 (qq (qai (args := #[.slice A33 (0 + n31) c33]) rfl Tryz.call30 (Ret.mono h ?_))))))
        clear h; rintro r14 w46 ⟨A39, n36, c39, x44, rfl, h⟩
        refine qbr (qz ?_)
        exact ⟨(A39, n36, c39), h, qaa⟩
      ·replace h := h.2 (hb)
       refine wp_exit (qr (block_exit_eq (qz (qx (qbr (qz ?_))))))
       exact ⟨((IntKind.i64.wrap (x17 + 1))), qaa, h.1, h.2⟩
   ·replace h := h.2 (of_decide_eq_false hb)
    refine wp_exit (qr (qr (block_exit_eq (qz (wp_seq (qx ?_))))))
    obtain ⟨A40, n37, c40, A41, n38, c41, x45, x46, d14, x47, hl0, hx, h⟩ := h
    refine qq (qaq (cs := (([.slice A40 n37 c40, .slice A41 n38 c41, .int .i64 x45, .int .u32 x46] : List Value) ++ d14 ++ ([.int .i64 x47] : List Value))) rfl Tryz.isAgg54 Tryz.sizeOf54 (by simp [hl0]) hx ?_)
    obtain ⟨hl, h1, hw, h⟩ := h
    refine qq (qbd (cs := (([.slice A40 n37 c40, .slice A41 n38 c41, .int .i64 x45, .int .u32 x46] : List Value) ++ d14 ++ ([.int .i64 x47] : List Value))) rfl Tryz.sizeOf54 hl h1 hw ?_)
    intro w47 e1; replace h := h w47 e1
    refine qo (qz (wp_ret ?_))
    obtain ⟨A42, n39, c42, A43, n40, c43, x48, x49, d15, x50, hl0_0, hx0, h⟩ := h
    exact qbi (vs := [.agg (([.slice A42 n39 c42, .slice A43 n40 c43, .int .i64 x48, .int .u32 x49] : List Value) ++ d15 ++ ([.int .i64 x50] : List Value)).toArray]) (v := .agg (([.slice A42 n39 c42, .slice A43 n40 c43, .int .i64 x48, .int .u32 x49] : List Value) ++ d15 ++ ([.int .i64 x50] : List Value)).toArray) Tryz.results12 ⟨⟨b4, 0, by kernel_rfl, run_loadN Tryz.isAgg54 Tryz.sizeOf54 (by simp [hl0_0]) hx0⟩, trivial⟩ h
def S_13 (A1 : Option Addr) (n1 c1 : Nat) (A2 : Option Addr) (n2 c2 : Nat) (A3 : Option Addr) (n3 c3 : Nat) (x1 x2 : Int) (d1 : List Value) (x3 : Int) (w : World) (Q : Value → World → Prop) : Prop :=
 ∀ b1 w1, b1 = w.heap.size → w1 = w.alloc (.cells (([.slice A2 n2 c2, .slice A3 n3 c3, .int .i64 x1, .int .u32 x2] : List Value) ++ d1 ++ ([.int .i64 x3] : List Value)).toArray 54) →
 ∃ A4 n4 c4, w1.cell? ⟨b1, 0, none⟩ = some (.slice A4 n4 c4) ∧
 ((n1 : Int) ≠ (n4 : Int) →
 Q (.bool false) w1) ∧
 ((n1 : Int) = (n4 : Int) →
 ∃ (I1 : Int → World → Prop) (μ1 : Int → World → Nat), I1 0 w1 ∧
 ∀ x4 w2, I1 x4 w2 →
 (x4 < (n1 : Int) →
 ∀ w3, w3 = w2.drew →
 ∃ b2 o1, A1 = some ⟨b2, o1, none⟩ ∧ (0 : Int) ≤ x4 ∧ x4 < (n1 : Int) ∧
 ∃ x5, w2.cell? ⟨b2, (o1 + (x4).toNat * 2), none⟩ = some (.int .i64 x5) ∧
 ∃ A5 n5 c5, w2.cell? ⟨b1, 0, none⟩ = some (.slice A5 n5 c5) ∧
 ∃ b3 o2, A5 = some ⟨b3, o2, none⟩ ∧ (0 : Int) ≤ x4 ∧ x4 < (n5 : Int) ∧
 ∃ x6, w2.cell? ⟨b3, (o2 + (x4).toNat * 2), none⟩ = some (.int .i64 x6) ∧
 (x5 ≠ x6 →
 Q (.bool false) w3) ∧
 (x5 = x6 →
 (0 : Int) ≤ x4 ∧ x4 < (n1 : Int) ∧
 ∃ A6 n6 c6, w2.cell? ⟨b2, ((o1 + (x4).toNat * 2) + 1), none⟩ = some (.slice A6 n6 c6) ∧
 ∃ A7 n7 c7, w2.cell? ⟨b1, 0, none⟩ = some (.slice A7 n7 c7) ∧
 ∃ b4 o3, A7 = some ⟨b4, o3, none⟩ ∧ (0 : Int) ≤ x4 ∧ x4 < (n7 : Int) ∧
 ∃ A8 n8 c8, w2.cell? ⟨b4, ((o3 + (x4).toNat * 2) + 1), none⟩ = some (.slice A8 n8 c8) ∧
 Ret Tryz.prog 34 #[.slice A6 n6 c6, .slice A8 n8 c8] w3 fun r1 w4 => ∃ q1, r1 = .bool q1 ∧
 (q1 = false →
 Q (.bool false) w4) ∧
 (q1 = true →
 I1 (IntKind.i64.wrap (x4 + 1)) w4 ∧ μ1 (IntKind.i64.wrap (x4 + 1)) w4 < μ1 x4 w2))) ∧
 (¬ x4 < (n1 : Int) →
 Q (.bool true) w2))
theorem L_13 (A1 : Option Addr) (n1 c1 : Nat) (A2 : Option Addr) (n2 c2 : Nat) (A3 : Option Addr) (n3 c3 : Nat) (x1 x2 : Int) (d1 : List Value) (x3 : Int) (w : World) (Q : Value → World → Prop) (hp0 : d1.length = 32) (h : S_13 A1 n1 c1 A2 n2 c2 A3 n3 c3 x1 x2 d1 x3 w Q) : Ret Tryz.prog 13 #[.slice A1 n1 c1, .agg (([.slice A2 n2 c2, .slice A3 n3 c3, .int .i64 x1, .int .u32 x2] : List Value) ++ d1 ++ ([.int .i64 x3] : List Value)).toArray] w Q := by
 unfold S_13 at h
 refine ret_of_wp Tryz.func13 rfl (wp_seq (qx (qq (qaf (v := .agg (([.slice A2 n2 c2, .slice A3 n3 c3, .int .i64 x1, .int .u32 x2] : List Value) ++ d1 ++ ([.int .i64 x3] : List Value)).toArray) rfl ?_))))
 intro b1 w1 e1 e2; replace h := h b1 w1 e1 e2
 refine qbr (qz (wp_seq (wp_seq (qx (qbt 3 ?_)))))
 obtain ⟨A4, n4, c4, hx, h⟩ := h
 refine qq (qap (v := .slice A4 n4 c4) rfl Tryz.isAgg52 hx ?_)
 refine qbr (qz (wp_cond_split (t := ((n1 : Int) != (n4 : Int))) (by kernel_rfl) (fun hb => ?_) (fun hb => ?_)))
 ·replace h := h.1 (bne_iff_ne.1 hb)
  refine wp_seq (qx (qbr (qz (wp_ret (qs ?_)))))
  exact qbh (v := .bool false) h
 ·replace h := h.2 (bne_false hb)
  refine wp_skip (qz (wp_seq (wp_seq (qx (qbr (qz (wp_block ?_)))))))
  obtain ⟨I1, μ1, hI1, hB1⟩ := h
  refine wp_loop_st (σ := Int) (fun s a => ∃ u1 : Nat → Value, a = ⟨#[.slice A1 n1 c1, .agg (([.slice A2 n2 c2, .slice A3 n3 c3, .int .i64 x1, .int .u32 x2] : List Value) ++ d1 ++ ([.int .i64 x3] : List Value)).toArray, undef, .pointer (some ⟨b1, 0, none⟩), u1 4, u1 5, .slice A1 n1 c1, .int .i64 (n1 : Int), .pointer (some ⟨b1, 0, none⟩), .slice A4 n4 c4, .int .i64 (n4 : Int), .bool ((n1 : Int) != (n4 : Int)), .slice A1 n1 c1, .int .i64 (n1 : Int), .int .i64 s, u1 15, u1 16, u1 17, u1 18, u1 19, u1 20, u1 21, u1 22, u1 23, u1 24, u1 25, u1 26, u1 27, u1 28, u1 29, u1 30, u1 31, u1 32, u1 33, u1 34, u1 35, u1 36, u1 37, u1 38, u1 39, u1 40, u1 41, u1 42, u1 43, u1 44], []⟩) (fun s w => I1 s w) (fun s w => μ1 s w) (0) (qaa) hI1 ?_
  rintro x4 a w2 ⟨u1, rfl⟩ hI1
  have h := hB1 x4 w2 hI1
  refine wp_seq (qx (qbr (qz (wp_seq (wp_cond_split (t := (decide (x4 < (n1 : Int)))) (by kernel_rfl) (fun hb => ?_) (fun hb => ?_))))))
  ·replace h := h.1 (of_decide_eq_true hb)
   refine wp_skip (qz (wp_seq (wp_block (wp_seq (qx (qbr (qz (wp_seq (qbj (Keep w2) [24] ?_)))))))))
   intro w3 e1; have hK1 := keep_drew e1; replace h := h w3 e1
   refine qbo 0 rfl (qbz (v := .slice A1 n1 c1)) (qbo 1 rfl (qbz (v := .int .i64 x4)) ?_)
   obtain ⟨b2, o1, rfl, h⟩ := h
   obtain ⟨h1, h2, h⟩ := h
   refine qbo 2 rfl (qbu (k := .i64) (j := x4) (b := b2) (off := o1) (n := n1) (c := c1) rfl Tryz.underlying44 Tryz.sizeOf70 h1 h2) ?_
   refine qbo 3 rfl (qbz (v := .pointer (some ⟨b2, (o1 + (x4).toNat * 2), none⟩))) ?_
   obtain ⟨x5, hx, h⟩ := h
   refine qbn 4 rfl (qbw (v := .int .i64 x5) rfl Tryz.isAgg3 (fun _ hk => keep_cell hk hx)) hK1 ?_
   refine qbo 5 rfl (qbz (v := .pointer (some ⟨b1, 0, none⟩))) ?_
   obtain ⟨A5, n5, c5, hx, h⟩ := h
   refine qbn 6 rfl (qbw (v := .slice A5 n5 c5) rfl Tryz.isAgg52 (fun _ hk => keep_cell hk hx)) hK1 ?_
   refine qbo 7 rfl (qbz (v := .int .i64 x4)) ?_
   obtain ⟨b3, o2, rfl, h⟩ := h
   obtain ⟨h1, h2, h⟩ := h
   refine qbo 8 rfl (qbu (k := .i64) (j := x4) (b := b3) (off := o2) (n := n5) (c := c5) rfl Tryz.underlying52 Tryz.sizeOf102 h1 h2) ?_
   refine qbo 9 rfl (qbz (v := .pointer (some ⟨b3, (o2 + (x4).toNat * 2), none⟩))) ?_
   obtain ⟨x6, hx, h⟩ := h
   refine qbn 10 rfl (qbw (v := .int .i64 x6) rfl Tryz.isAgg3 (fun _ hk => keep_cell hk hx)) hK1 ?_
   refine qbo 11 rfl (qbz (v := .bool (x5 != x6))) (qbo 12 rfl (qbz (v := .bool (x5 != x6))) (wd_split (e := (x5 != x6)) ?_ ?_))
   ·intro hb; refine qbl 29 (e := (x5 != x6)) (b := true) hb ?_
    replace h := h.1 (bne_iff_ne.1 hb)
    refine qbo 13 rfl (qcb) (qbo 14 rfl (qcb) (qbo 15 rfl (qcb) (qbo 16 rfl (qcb) (qbn 17 rfl (qcb) hK1 (qbo 18 rfl (qcb) (qbn 19 rfl (qcb) hK1 (qbo 20 rfl (qcb) (qbo 21 rfl (qcb) (qbo 22 rfl (qcb) (qbn 23 rfl (qcb) hK1 (qbo 24 rfl (qcb) (qbo 25 rfl (qcb) (qbo 26 rfl (qbz (v := .bool true)) (qbk (qz (wp_cond_true (by kernel_rfl) (wp_seq (qx (qbr (qz (wp_ret (block_ret (qs (qs (block_ret (qs ?_))))))))))))))))))))))))))
    exact qbh (v := .bool false) h
   ·intro hb; refine qbl 29 (e := (x5 != x6)) (b := false) hb ?_
    replace h := h.2 (bne_false hb)
    refine qbo 13 rfl (qbz (v := .slice (some ⟨b2, o1, none⟩) n1 c1)) (qbo 14 rfl (qbz (v := .int .i64 x4)) ?_)
    obtain ⟨h1, h2, h⟩ := h
    refine qbo 15 rfl (qbu (k := .i64) (j := x4) (b := b2) (off := o1) (n := n1) (c := c1) rfl Tryz.underlying44 Tryz.sizeOf70 h1 h2) ?_
    refine qbo 16 rfl (qbz (v := .pointer (some ⟨b2, ((o1 + (x4).toNat * 2) + 1), none⟩))) ?_
    obtain ⟨A6, n6, c6, hx, h⟩ := h
    refine qbn 17 rfl (qbw (v := .slice A6 n6 c6) rfl Tryz.isAgg62 (fun _ hk => keep_cell hk hx)) hK1 ?_
    refine qbo 18 rfl (qbz (v := .pointer (some ⟨b1, 0, none⟩))) ?_
    obtain ⟨A7, n7, c7, hx, h⟩ := h
    refine qbn 19 rfl (qbw (v := .slice A7 n7 c7) rfl Tryz.isAgg52 (fun _ hk => keep_cell hk hx)) hK1 ?_
    refine qbo 20 rfl (qbz (v := .int .i64 x4)) ?_
    obtain ⟨b4, o3, rfl, h⟩ := h
    obtain ⟨h1, h2, h⟩ := h
    refine qbo 21 rfl (qbu (k := .i64) (j := x4) (b := b4) (off := o3) (n := n7) (c := c7) rfl Tryz.underlying52 Tryz.sizeOf102 h1 h2) ?_
    refine qbo 22 rfl (qbz (v := .pointer (some ⟨b4, ((o3 + (x4).toNat * 2) + 1), none⟩))) ?_
    obtain ⟨A8, n8, c8, hx, h⟩ := h
    refine qbn 23 rfl (qbw (v := .slice A8 n8 c8) rfl Tryz.isAgg62 (fun _ hk => keep_cell hk hx)) hK1 ?_
    refine qbm 24 rfl (qai (args := #[.slice A6 n6 c6, .slice A8 n8 c8]) rfl Tryz.call34 (Ret.mono h ?_))
    clear h; rintro r1 w4 ⟨q1, rfl, h⟩
    refine ⟨fun hh => absurd hh (by decide), ?_⟩
    refine qbo 25 rfl (qbz (v := .bool (!q1))) (qbo 26 rfl (qbz (v := .bool (!q1))) (qbk (qz (wp_cond_split (t := (!q1)) (by kernel_rfl) (fun hb => ?_) (fun hb => ?_)))))
    ·replace h := h.1 ((not_flip hb))
     refine wp_seq (qx (qbr (qz (wp_ret (block_ret (qs (qs (block_ret (qs ?_)))))))))
     exact qbh (v := .bool false) h
    ·replace h := h.2 ((not_flip hb))
     refine wp_skip (qu (qz (qx (qbr (qz ?_)))))
     exact ⟨((IntKind.i64.wrap (x4 + 1))), qaa, h.1, h.2⟩
  ·replace h := h.2 (of_decide_eq_false hb)
   refine wp_exit (qr (qr (block_exit_eq (qz (wp_seq (qx (qbr (qz (wp_ret ?_)))))))))
   exact qbh (v := .bool true) h
def S_14 (A1 : Option Addr) (n1 c1 : Nat) (A2 : Option Addr) (n2 c2 : Nat) (w : World) (Q : Value → World → Prop) : Prop :=
 ((n1 : Int) ≠ (n2 : Int) →
 Q (.bool false) w) ∧
 ((n1 : Int) = (n2 : Int) →
 ∃ (I1 : Int → World → Prop) (μ1 : Int → World → Nat), I1 0 w ∧
 ∀ x1 w1, I1 x1 w1 →
 (x1 < (n1 : Int) →
 ∀ w2, w2 = w1.drew →
 ∃ b1 o1, A1 = some ⟨b1, o1, none⟩ ∧ (0 : Int) ≤ x1 ∧ x1 < (n1 : Int) ∧
 ∃ x2, w1.cell? ⟨b1, (o1 + (x1).toNat * 2), none⟩ = some (.int .i64 x2) ∧
 ∃ b2 o2, A2 = some ⟨b2, o2, none⟩ ∧ (0 : Int) ≤ x1 ∧ x1 < (n2 : Int) ∧
 ∃ x3, w1.cell? ⟨b2, (o2 + (x1).toNat * 2), none⟩ = some (.int .i64 x3) ∧
 (x2 ≠ x3 →
 Q (.bool false) w2) ∧
 (x2 = x3 →
 (0 : Int) ≤ x1 ∧ x1 < (n1 : Int) ∧
 ∃ A3 n3 c3, w1.cell? ⟨b1, ((o1 + (x1).toNat * 2) + 1), none⟩ = some (.slice A3 n3 c3) ∧
 (0 : Int) ≤ x1 ∧ x1 < (n2 : Int) ∧
 ∃ A4 n4 c4, w1.cell? ⟨b2, ((o2 + (x1).toNat * 2) + 1), none⟩ = some (.slice A4 n4 c4) ∧
 ((n3 : Int) ≠ (n4 : Int) →
 Q (.bool false) w2) ∧
 ((n3 : Int) = (n4 : Int) →
 (0 : Int) ≤ x1 ∧ x1 < (n1 : Int) ∧
 ∃ A5 n5 c5, w2.cell? ⟨b1, ((o1 + (x1).toNat * 2) + 1), none⟩ = some (.slice A5 n5 c5) ∧
 ∃ (I2 : Int → World → Prop) (μ2 : Int → World → Nat), I2 0 w2 ∧
 ∀ x4 w3, I2 x4 w3 →
 (x4 < (n5 : Int) →
 ∃ b3 o3, A5 = some ⟨b3, o3, none⟩ ∧ (0 : Int) ≤ x4 ∧ x4 < (n5 : Int) ∧
 ∃ (x5 : Int) (x6 : Int) (d1 : List Value), d1.length = 32 ∧ w3.rangeAt b3 (o3 + (x4).toNat * 34) (([.int .i64 x5, .int .u32 x6] : List Value) ++ d1) ∧
 ∀ b4 w4, b4 = w3.heap.size → w4 = w3.alloc (.cells (([.int .i64 0, .int .u32 0] : List Value) ++ (List.replicate 32 (.int .u8 0 : Value))).toArray 46) →
 (([.int .i64 x5, .int .u32 x6] : List Value) ++ d1).length = 34 ∧ One (([.int .i64 x5, .int .u32 x6] : List Value) ++ d1) ∧ w4.there b4 0 34 ∧
 ∀ w5, w5 = w4.setCells b4 0 (([.int .i64 x5, .int .u32 x6] : List Value) ++ d1) →
 ∀ w6, w6 = w5.drew →
 ∃ (x7 : Int) (x8 : Int) (d2 : List Value), d2.length = 32 ∧ w5.rangeAt b4 0 (([.int .i64 x7, .int .u32 x8] : List Value) ++ d2) ∧
 (0 : Int) ≤ x1 ∧ x1 < (n2 : Int) ∧
 ∃ A6 n6 c6, w5.cell? ⟨b2, ((o2 + (x1).toNat * 2) + 1), none⟩ = some (.slice A6 n6 c6) ∧
 ∃ b5 o4, A6 = some ⟨b5, o4, none⟩ ∧ (0 : Int) ≤ x4 ∧ x4 < (n6 : Int) ∧
 ∃ (x9 : Int) (x10 : Int) (d3 : List Value), d3.length = 32 ∧ w5.rangeAt b5 (o4 + (x4).toNat * 34) (([.int .i64 x9, .int .u32 x10] : List Value) ++ d3) ∧
 ∃ q1, (∀ W, EqRun Tryz.prog W 25 (.agg (([.int .i64 x7, .int .u32 x8] : List Value) ++ d2).toArray) (.agg (([.int .i64 x9, .int .u32 x10] : List Value) ++ d3).toArray) q1) ∧
 (q1 = false →
 Q (.bool false) w6) ∧
 (q1 = true →
 I2 (IntKind.i64.wrap (x4 + 1)) w6 ∧ μ2 (IntKind.i64.wrap (x4 + 1)) w6 < μ2 x4 w3)) ∧
 (¬ x4 < (n5 : Int) →
 I1 (IntKind.i64.wrap (x1 + 1)) w3 ∧ μ1 (IntKind.i64.wrap (x1 + 1)) w3 < μ1 x1 w1)))) ∧
 (¬ x1 < (n1 : Int) →
 Q (.bool true) w1))
theorem L_14 (A1 : Option Addr) (n1 c1 : Nat) (A2 : Option Addr) (n2 c2 : Nat) (w : World) (Q : Value → World → Prop) (h : S_14 A1 n1 c1 A2 n2 c2 w Q) : Ret Tryz.prog 14 #[.slice A1 n1 c1, .slice A2 n2 c2] w Q := by
 unfold S_14 at h
 refine ret_of_wp Tryz.func14 rfl (wp_seq (qx (qbr (qz (wp_seq (wp_seq (qx (qbr (qz (wp_cond_split (t := ((n1 : Int) != (n2 : Int))) (by kernel_rfl) (fun hb => ?_) (fun hb => ?_)))))))))))
 ·replace h := h.1 (bne_iff_ne.1 hb)
  refine wp_seq (qx (qbr (qz (wp_ret (qs ?_)))))
  exact qbh (v := .bool false) h
 ·replace h := h.2 (bne_false hb)
  refine wp_skip (qz (wp_seq (wp_seq (qx (qbr (qz (wp_block ?_)))))))
  obtain ⟨I1, μ1, hI1, hB1⟩ := h
  refine wp_loop_st (σ := Int) (fun s a => ∃ u1 : Nat → Value, a = ⟨#[.slice A1 n1 c1, .slice A2 n2 c2, undef, undef, u1 4, u1 5, u1 6, u1 7, .slice A1 n1 c1, .int .i64 (n1 : Int), .slice A2 n2 c2, .int .i64 (n2 : Int), .bool ((n1 : Int) != (n2 : Int)), .slice A1 n1 c1, .int .i64 (n1 : Int), .int .i64 s, u1 16, u1 17, u1 18, u1 19, u1 20, u1 21, u1 22, u1 23, u1 24, u1 25, u1 26, u1 27, u1 28, u1 29, u1 30, u1 31, u1 32, u1 33, u1 34, u1 35, u1 36, u1 37, u1 38, u1 39, u1 40, u1 41, u1 42, u1 43, u1 44, u1 45, u1 46, u1 47, u1 48, u1 49, u1 50, u1 51, u1 52, u1 53, u1 54, u1 55, u1 56, u1 57, u1 58, u1 59, u1 60, u1 61, u1 62, u1 63, u1 64, u1 65, u1 66], []⟩) (fun s w => I1 s w) (fun s w => μ1 s w) (0) (qaa) hI1 ?_
  rintro x1 a w1 ⟨u1, rfl⟩ hI1
  have h := hB1 x1 w1 hI1
  refine wp_seq (qx (qbr (qz (wp_seq (wp_cond_split (t := (decide (x1 < (n1 : Int)))) (by kernel_rfl) (fun hb => ?_) (fun hb => ?_))))))
  ·replace h := h.1 (of_decide_eq_true hb)
   refine wp_skip (qz (wp_seq (wp_block (wp_seq (qx (qbr (qz (wp_seq (wp_seq (qbj (Keep w1) [] ?_))))))))))
   intro w2 e1; have hK1 := keep_drew e1; replace h := h w2 e1
   refine qbo 0 rfl (qbz (v := .slice A1 n1 c1)) (qbo 1 rfl (qbz (v := .int .i64 x1)) ?_)
   obtain ⟨b1, o1, rfl, h⟩ := h
   obtain ⟨h1, h2, h⟩ := h
   refine qbo 2 rfl (qbu (k := .i64) (j := x1) (b := b1) (off := o1) (n := n1) (c := c1) rfl Tryz.underlying45 Tryz.sizeOf67 h1 h2) ?_
   refine qbo 3 rfl (qbz (v := .pointer (some ⟨b1, (o1 + (x1).toNat * 2), none⟩))) ?_
   obtain ⟨x2, hx, h⟩ := h
   refine qbn 4 rfl (qbw (v := .int .i64 x2) rfl Tryz.isAgg3 (fun _ hk => keep_cell hk hx)) hK1 ?_
   refine qbo 5 rfl (qbz (v := .slice A2 n2 c2)) (qbo 6 rfl (qbz (v := .int .i64 x1)) ?_)
   obtain ⟨b2, o2, rfl, h⟩ := h
   obtain ⟨h1, h2, h⟩ := h
   refine qbo 7 rfl (qbu (k := .i64) (j := x1) (b := b2) (off := o2) (n := n2) (c := c2) rfl Tryz.underlying28 Tryz.sizeOf61 h1 h2) ?_
   refine qbo 8 rfl (qbz (v := .pointer (some ⟨b2, (o2 + (x1).toNat * 2), none⟩))) ?_
   obtain ⟨x3, hx, h⟩ := h
   refine qbn 9 rfl (qbw (v := .int .i64 x3) rfl Tryz.isAgg3 (fun _ hk => keep_cell hk hx)) hK1 ?_
   refine qbo 10 rfl (qbz (v := .bool (x2 != x3))) (qbo 11 rfl (qbz (v := .bool (x2 != x3))) (wd_split (e := (x2 != x3)) ?_ ?_))
   ·intro hb; refine qbl 29 (e := (x2 != x3)) (b := true) hb ?_
    replace h := h.1 (bne_iff_ne.1 hb)
    refine qbo 12 rfl (qcb) (qbo 13 rfl (qcb) (qbo 14 rfl (qcb) (qbo 15 rfl (qcb) (qbn 16 rfl (qcb) hK1 (qbo 17 rfl (qcb) (qbo 18 rfl (qcb) (qbo 19 rfl (qcb) (qbo 20 rfl (qcb) (qbo 21 rfl (qcb) (qbn 22 rfl (qcb) hK1 (qbo 23 rfl (qcb) (qbo 24 rfl (qcb) (qbo 25 rfl (qbz (v := .bool true)) (qbk (qz (wp_cond_true (by kernel_rfl) (wp_seq (qx (qbr (qz (wp_ret (qs (block_ret (qs (qs (block_ret (qs ?_)))))))))))))))))))))))))))
    exact qbh (v := .bool false) h
   ·intro hb; refine qbl 29 (e := (x2 != x3)) (b := false) hb ?_
    replace h := h.2 (bne_false hb)
    refine qbo 12 rfl (qbz (v := .slice (some ⟨b1, o1, none⟩) n1 c1)) (qbo 13 rfl (qbz (v := .int .i64 x1)) ?_)
    obtain ⟨h1, h2, h⟩ := h
    refine qbo 14 rfl (qbu (k := .i64) (j := x1) (b := b1) (off := o1) (n := n1) (c := c1) rfl Tryz.underlying45 Tryz.sizeOf67 h1 h2) ?_
    refine qbo 15 rfl (qbz (v := .pointer (some ⟨b1, ((o1 + (x1).toNat * 2) + 1), none⟩))) ?_
    obtain ⟨A3, n3, c3, hx, h⟩ := h
    refine qbn 16 rfl (qbw (v := .slice A3 n3 c3) rfl Tryz.isAgg65 (fun _ hk => keep_cell hk hx)) hK1 ?_
    refine qbo 17 rfl (qbz (v := .int .i64 (n3 : Int))) (qbo 18 rfl (qbz (v := .slice (some ⟨b2, o2, none⟩) n2 c2)) (qbo 19 rfl (qbz (v := .int .i64 x1)) ?_))
    obtain ⟨h1, h2, h⟩ := h
    refine qbo 20 rfl (qbu (k := .i64) (j := x1) (b := b2) (off := o2) (n := n2) (c := c2) rfl Tryz.underlying28 Tryz.sizeOf61 h1 h2) ?_
    refine qbo 21 rfl (qbz (v := .pointer (some ⟨b2, ((o2 + (x1).toNat * 2) + 1), none⟩))) ?_
    obtain ⟨A4, n4, c4, hx, h⟩ := h
    refine qbn 22 rfl (qbw (v := .slice A4 n4 c4) rfl Tryz.isAgg59 (fun _ hk => keep_cell hk hx)) hK1 ?_
    refine qbo 23 rfl (qbz (v := .int .i64 (n4 : Int))) (qbo 24 rfl (qbz (v := .bool ((n3 : Int) != (n4 : Int)))) (qbo 25 rfl (qbz (v := .bool ((n3 : Int) != (n4 : Int)))) (qbk (qz (wp_cond_split (t := ((n3 : Int) != (n4 : Int))) (by kernel_rfl) (fun hb => ?_) (fun hb => ?_))))))
    ·replace h := h.1 (bne_iff_ne.1 hb)
     refine wp_seq (qx (qbr (qz (wp_ret (qs (block_ret (qs (qs (block_ret (qs ?_))))))))))
     exact qbh (v := .bool false) h
    ·replace h := h.2 (bne_false hb)
     refine wp_skip (qz (wp_seq (qx (qbt 2 ?_))))
     obtain ⟨h1, h2, h⟩ := h
     refine qq (qan (k := .i64) (j := x1) (b := b1) (off := o1) (n := n1) (c := c1) rfl Tryz.underlying45 Tryz.sizeOf67 h1 h2 ?_)
     refine qbt 1 ?_
     obtain ⟨A5, n5, c5, hx, h⟩ := h
     refine qq (qap (v := .slice A5 n5 c5) rfl Tryz.isAgg65 hx ?_)
     refine qbr (qz (wp_block ?_))
     obtain ⟨I2, μ2, hI2, hB2⟩ := h
     refine wp_loop_st (σ := Int) (fun s a => ∃ u2 : Nat → Value, a = ⟨#[.slice (some ⟨b1, o1, none⟩) n1 c1, .slice (some ⟨b2, o2, none⟩) n2 c2, undef, undef, u2 4, .int .i64 x1, u2 6, u2 7, .slice (some ⟨b1, o1, none⟩) n1 c1, .int .i64 (n1 : Int), .slice (some ⟨b2, o2, none⟩) n2 c2, .int .i64 (n2 : Int), .bool ((n1 : Int) != (n2 : Int)), .slice (some ⟨b1, o1, none⟩) n1 c1, .int .i64 (n1 : Int), .int .i64 x1, .bool (decide (x1 < (n1 : Int))), .int .i64 x1, .slice (some ⟨b1, o1, none⟩) n1 c1, .int .i64 x1, .pointer (some ⟨b1, (o1 + (x1).toNat * 2), none⟩), .pointer (some ⟨b1, (o1 + (x1).toNat * 2), none⟩), .int .i64 x2, .slice (some ⟨b2, o2, none⟩) n2 c2, .int .i64 x1, .pointer (some ⟨b2, (o2 + (x1).toNat * 2), none⟩), .pointer (some ⟨b2, (o2 + (x1).toNat * 2), none⟩), .int .i64 x3, .bool (x2 != x3), .bool false, .slice (some ⟨b1, o1, none⟩) n1 c1, .int .i64 x1, .pointer (some ⟨b1, (o1 + (x1).toNat * 2), none⟩), .pointer (some ⟨b1, ((o1 + (x1).toNat * 2) + 1), none⟩), .slice A3 n3 c3, .int .i64 (n3 : Int), .slice (some ⟨b2, o2, none⟩) n2 c2, .int .i64 x1, .pointer (some ⟨b2, (o2 + (x1).toNat * 2), none⟩), .pointer (some ⟨b2, ((o2 + (x1).toNat * 2) + 1), none⟩), .slice A4 n4 c4, .int .i64 (n4 : Int), .bool ((n3 : Int) != (n4 : Int)), .bool ((n3 : Int) != (n4 : Int)), .slice (some ⟨b1, o1, none⟩) n1 c1, .int .i64 x1, .pointer (some ⟨b1, (o1 + (x1).toNat * 2), none⟩), .pointer (some ⟨b1, ((o1 + (x1).toNat * 2) + 1), none⟩), .slice A5 n5 c5, .int .i64 (n5 : Int), .int .i64 s, u2 51, u2 52, u2 53, u2 54, u2 55, u2 56, u2 57, u2 58, u2 59, u2 60, u2 61, u2 62, u2 63, u2 64, u2 65, u1 66], []⟩) (fun s w => I2 s w) (fun s w => μ2 s w) (0) (qaa) hI2 ?_
     rintro x4 a w3 ⟨u2, rfl⟩ hI2
     have h := hB2 x4 w3 hI2
     refine wp_seq (qx (qbr (qz (wp_seq (wp_cond_split (t := (decide (x4 < (n5 : Int)))) (by kernel_rfl) (fun hb => ?_) (fun hb => ?_))))))
     ·replace h := h.1 (of_decide_eq_true hb)
      refine wp_skip (qz (wp_seq (wp_block (wp_seq (qx (qbt 1 ?_))))))
      obtain ⟨b3, o3, rfl, h⟩ := h
      obtain ⟨h1, h2, h⟩ := h
      refine qq (qan (k := .i64) (j := x4) (b := b3) (off := o3) (n := n5) (c := c5) rfl Tryz.underlying65 Tryz.sizeOf46 h1 h2 ?_)
      obtain ⟨x5, x6, d1, hl0, hx, h⟩ := h
      refine qq (qaq (cs := (([.int .i64 x5, .int .u32 x6] : List Value) ++ d1)) rfl Tryz.isAgg46 Tryz.sizeOf46 (by simp [hl0]) hx ?_)
      refine qq (qac rfl Tryz.zeroValue46 ?_)
      intro b4 w4 e1 e2; replace h := h b4 w4 e1 e2
      refine qbt 1 ?_
      obtain ⟨hl, h1, hw, h⟩ := h
      refine qq (qbd (cs := (([.int .i64 x5, .int .u32 x6] : List Value) ++ d1)) rfl Tryz.sizeOf46 hl h1 hw ?_)
      intro w5 e1; replace h := h w5 e1
      refine qo (qz (wp_seq (qbj (Keep w5) [] ?_)))
      intro w6 e1; have hK2 := keep_drew e1; replace h := h w6 e1
      obtain ⟨x7, x8, d2, hl0, hx, h⟩ := h
      refine qbn 0 rfl (qbx (cs := (([.int .i64 x7, .int .u32 x8] : List Value) ++ d2)) rfl Tryz.isAgg46 Tryz.sizeOf46 (by simp [hl0]) (fun _ hk => keep_range hk hx)) hK2 ?_
      refine qbo 1 rfl (qbz (v := .slice (some ⟨b2, o2, none⟩) n2 c2)) (qbo 2 rfl (qbz (v := .int .i64 x1)) ?_)
      obtain ⟨h1, h2, h⟩ := h
      refine qbo 3 rfl (qbu (k := .i64) (j := x1) (b := b2) (off := o2) (n := n2) (c := c2) rfl Tryz.underlying28 Tryz.sizeOf61 h1 h2) ?_
      refine qbo 4 rfl (qbz (v := .pointer (some ⟨b2, ((o2 + (x1).toNat * 2) + 1), none⟩))) ?_
      obtain ⟨A6, n6, c6, hx, h⟩ := h
      refine qbn 5 rfl (qbw (v := .slice A6 n6 c6) rfl Tryz.isAgg59 (fun _ hk => keep_cell hk hx)) hK2 ?_
      refine qbo 6 rfl (qbz (v := .int .i64 x4)) ?_
      obtain ⟨b5, o4, rfl, h⟩ := h
      obtain ⟨h1, h2, h⟩ := h
      refine qbo 7 rfl (qbu (k := .i64) (j := x4) (b := b5) (off := o4) (n := n6) (c := c6) rfl Tryz.underlying59 Tryz.sizeOf25 h1 h2) ?_
      obtain ⟨x9, x10, d3, hl0, hx, h⟩ := h
      refine qbn 8 rfl (qbx (cs := (([.int .i64 x9, .int .u32 x10] : List Value) ++ d3)) rfl Tryz.isAgg25 Tryz.sizeOf25 (by simp [hl0]) (fun _ hk => keep_range hk hx)) hK2 ?_
      obtain ⟨q1, h1, h⟩ := h
      refine qbo 9 rfl (qby (x := .agg (([.int .i64 x7, .int .u32 x8] : List Value) ++ d2).toArray) (y := .agg (([.int .i64 x9, .int .u32 x10] : List Value) ++ d3).toArray) (b := q1) rfl h1) ?_
      refine qbk (qz (wp_cond_split (t := (!q1)) (by kernel_rfl) (fun hb => ?_) (fun hb => ?_)))
      ·replace h := h.1 ((not_flip hb))
       refine wp_seq (qx (qbr (qz (wp_ret (block_ret (qs (qs (block_ret (block_ret (qs (qs (block_ret (qs ?_)))))))))))))
       exact qbh (v := .bool false) h
      ·replace h := h.2 ((not_flip hb))
       refine wp_skip (qu (qz (qx (qbr (qz ?_)))))
       exact ⟨((IntKind.i64.wrap (x4 + 1))), qaa, h.1, h.2⟩
     ·replace h := h.2 (of_decide_eq_false hb)
      refine wp_exit (qr (qr (block_exit_eq (qu (qz (qx (qbr (qz ?_))))))))
      exact ⟨((IntKind.i64.wrap (x1 + 1))), qaa, h.1, h.2⟩
  ·replace h := h.2 (of_decide_eq_false hb)
   refine wp_exit (qr (qr (block_exit_eq (qz (wp_seq (qx (qbr (qz (wp_ret ?_)))))))))
   exact qbh (v := .bool true) h
end Go.Proofs.YtpkfdhlkknanmaaGreat
