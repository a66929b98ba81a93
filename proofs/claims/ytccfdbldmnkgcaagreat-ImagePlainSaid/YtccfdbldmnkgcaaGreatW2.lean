/-
  For each function: what it asks of the world that it is called in (S_n), and that this suffices (L_n). Written by a program of this proof (gen.py) off the function's own print.
-/
import Derived.Test.YtccfdbldmnkgcaaGreatOpt
import Derived.Test.YtccfdbldmnkgcaaGreatProg
set_option linter.all false
set_option maxRecDepth 4000
namespace Go.Proofs.YtccfdbldmnkgcaaGreat
open Go Go.RowKit Go.Proofs

/- carling/carlinglaw19.ImagePlain -/
def S_3 (x1 : Int) (A1 : Option Addr) (n1 : Nat) (c1 : Nat) (w : World) (Q : Value → World → Prop) : Prop :=
  Ret Tryz.prog 4 #[.int .i64 x1] w fun r1 w1 => ∃ (p1 : Option Addr) (x2 : Int), r1 = .tuple #[.pointer p1, .int .i64 x2] ∧ 
    Ret Tryz.prog 5 #[.int .i64 x1] w1 fun r2 w2 => ∃ (A2 : Option Addr) (n2 : Nat) (c2 : Nat) (x3 : Int), r2 = .tuple #[.slice A2 n2 c2, .int .i64 x3] ∧ 
      ∃ J1 : Bool → World → Prop, (∀ (q2 : Bool) (w3 : World), J1 q2 w3 →
        (q2 = true →
          (x2 = x3 →
            (((!p1.isNone) == (x3 == 0)) = true →
              Ret Tryz.prog 7 #[] w3 fun r3 w4 => ∃ (q3 : Bool), r3 = .bool q3 ∧ 
                Q (.bool q3) w4) ∧
            (((!p1.isNone) == (x3 == 0)) = false →
              Q (.bool false) w3)) ∧
          (x2 ≠ x3 →
            Q (.bool false) w3)) ∧
        (q2 = false →
          Ret Tryz.prog 8 #[.slice A1 n1 c1] w3 fun r4 w5 => ∃ (A3 : Option Addr) (n3 : Nat) (c3 : Nat), r4 = .slice A3 n3 c3 ∧ 
            ∃ (I1 : (Option Addr) → Nat → Nat → Int → World → Prop) (μ1 : (Option Addr) → Nat → Nat → Int → World → Nat), I1 A2 n2 c2 0 w5 ∧
            ∀ (A4 : Option Addr) (n4 : Nat) (c4 : Nat) (x4 : Int) (w6 : World), I1 A4 n4 c4 x4 w6 →
              (x4 < ((n3 : Nat) : Int) →
                ∃ b1 o1, A3 = some ⟨b1, o1, none⟩ ∧ (0 : Int) ≤ x4 ∧ x4 < ((n3 : Nat) : Int) ∧
                ∃ (x5 : Int) (x6 : Int) (A5 : Option Addr) (n5 : Nat) (c5 : Nat) (x7 : Int), w6.rangeAt b1 (o1 + (x4).toNat * 4) ([.int .u8 x5, .int .i64 x6, .slice A5 n5 c5, .int .u32 x7] : List Value) ∧
                ∀ b2 w7, b2 = w6.heap.size → w7 = w6.alloc (.cells ([.int .u8 0, .int .i64 0, .slice none 0 0, .int .u32 0] : List Value).toArray 36) →
                w7.there b2 0 4 ∧
                ∀ w8, w8 = w7.setCells b2 0 ([.int .u8 x5, .int .i64 x6, .slice A5 n5 c5, .int .u32 x7] : List Value) →
                ∃ (A6 : Option Addr) (n6 : Nat) (c6 : Nat), w8.cell? ⟨b2, 2, none⟩ = some (.slice A6 n6 c6) ∧
                ∃ J2 : (Option Addr) → Nat → Nat → World → Prop, (∀ (A8 : Option Addr) (n8 : Nat) (c8 : Nat) (w9 : World), J2 A8 n8 c8 w9 →
                  ∃ (x8 : Int), w9.cell? ⟨b2, 1, none⟩ = some (.int .i64 x8) ∧
                  Ret Tryz.prog 10 #[.slice A4 n4 c4, .int .i64 x8, .slice A8 n8 c8] w9 fun r5 w10 => ∃ (A9 : Option Addr) (n9 : Nat) (c9 : Nat) (x9 : Int), r5 = .tuple #[.slice A9 n9 c9, .int .i64 x9] ∧ 
                    ∃ (x10 : Int), w10.cell? ⟨b2, 1, none⟩ = some (.int .i64 x10) ∧
                    Ret Tryz.prog 11 #[.pointer p1, .int .i64 x10, .slice A8 n8 c8] w10 fun r6 w11 => ∃ (x11 : Int), r6 = .int .i64 x11 ∧ 
                      (x11 ≠ x9 →
                        Q (.bool false) w11) ∧
                      (x11 = x9 →
                        ∃ (x12 : Int), w11.cell? ⟨b2, 1, none⟩ = some (.int .i64 x12) ∧
                        Ret Tryz.prog 12 #[.pointer p1, .int .i64 x12] w11 fun r7 w12 => ∃ (A10 : Option Addr) (n10 : Nat) (c10 : Nat) (x13 : Int), r7 = .tuple #[.slice A10 n10 c10, .int .i64 x13] ∧ 
                          ∃ J3 : (Option Addr) → Nat → Nat → World → Prop, (∀ (A12 : Option Addr) (n12 : Nat) (c12 : Nat) (w13 : World), J3 A12 n12 c12 w13 →
                            ∃ (x14 : Int), w13.cell? ⟨b2, 3, none⟩ = some (.int .u32 x14) ∧
                            Ret Tryz.prog 14 #[.pointer p1, .int .u32 x14] w13 fun r8 w14 => ∃ (A13 : Option Addr) (n13 : Nat) (c13 : Nat) (x15 : Int) (x16 : Int) (d1 : List Value) (x17 : Int), r8 = .tuple #[.slice A13 n13 c13, .agg (([.int .i64 x15, .int .u32 x16] : List Value) ++ d1).toArray, .int .i64 x17] ∧ d1.length = 32 ∧ 
                              ∀ b3 w15, b3 = w14.heap.size → w15 = w14.alloc (.cells ([.int .i64 0, .int .u32 0, .int .u8 0, .int .u8 0, .int .u8 0, .int .u8 0, .int .u8 0, .int .u8 0, .int .u8 0, .int .u8 0, .int .u8 0, .int .u8 0, .int .u8 0, .int .u8 0, .int .u8 0, .int .u8 0, .int .u8 0, .int .u8 0, .int .u8 0, .int .u8 0, .int .u8 0, .int .u8 0, .int .u8 0, .int .u8 0, .int .u8 0, .int .u8 0, .int .u8 0, .int .u8 0, .int .u8 0, .int .u8 0, .int .u8 0, .int .u8 0, .int .u8 0, .int .u8 0] : List Value).toArray 46) →
                              (([.int .i64 x15, .int .u32 x16] : List Value) ++ d1).length = 34 ∧ One (([.int .i64 x15, .int .u32 x16] : List Value) ++ d1) ∧ w15.there b3 0 34 ∧
                              ∀ w16, w16 = w15.setCells b3 0 (([.int .i64 x15, .int .u32 x16] : List Value) ++ d1) →
                              ∀ w17, w17 = w16.drew →
                              Ret Tryz.prog 15 #[.pointer p1] w17 fun r9 w18 => ∃ (A14 : Option Addr) (n14 : Nat) (c14 : Nat), r9 = .slice A14 n14 c14 ∧ 
                                Keep w16 w18 ∧
                                ((IntKind.i64.wrap (((n13 : Nat) : Int) + ((n14 : Nat) : Int))) ≠ 0 →
                                  Q (.bool false) w18) ∧
                                ((IntKind.i64.wrap (((n13 : Nat) : Int) + ((n14 : Nat) : Int))) = 0 →
                                  ∃ (x18 : Int) (x19 : Int) (d2 : List Value), d2.length = 32 ∧ w16.rangeAt b3 0 (([.int .i64 x18, .int .u32 x19] : List Value) ++ d2) ∧
                                  ∃ q4, (∀ W, EqRun Tryz.prog W 46 (.agg (([.int .i64 x18, .int .u32 x19] : List Value) ++ d2).toArray) (.agg ([.int .i64 0, .int .u32 0, .int .u8 0, .int .u8 0, .int .u8 0, .int .u8 0, .int .u8 0, .int .u8 0, .int .u8 0, .int .u8 0, .int .u8 0, .int .u8 0, .int .u8 0, .int .u8 0, .int .u8 0, .int .u8 0, .int .u8 0, .int .u8 0, .int .u8 0, .int .u8 0, .int .u8 0, .int .u8 0, .int .u8 0, .int .u8 0, .int .u8 0, .int .u8 0, .int .u8 0, .int .u8 0, .int .u8 0, .int .u8 0, .int .u8 0, .int .u8 0, .int .u8 0, .int .u8 0] : List Value).toArray) q4) ∧
                                  (q4 = false →
                                    Q (.bool false) w18) ∧
                                  (q4 = true →
                                    (x17 ≠ 0 →
                                      Q (.bool false) w18) ∧
                                    (x17 = 0 →
                                      Ret Tryz.prog 16 #[.pointer p1] w18 fun r10 w19 => ∃ (x20 : Int), r10 = .int .i64 x20 ∧ 
                                        Keep w16 w19 ∧
                                        (x20 ≠ 0 →
                                          Q (.bool false) w19) ∧
                                        (x20 = 0 →
                                          ∃ (x21 : Int) (x22 : Int) (d3 : List Value), d3.length = 32 ∧ w16.rangeAt b3 0 (([.int .i64 x21, .int .u32 x22] : List Value) ++ d3) ∧
                                          Ret Tryz.prog 17 #[.pointer p1] w19 fun r11 w20 => ∃ (x23 : Int) (x24 : Int) (d4 : List Value), r11 = .agg (([.int .i64 x23, .int .u32 x24] : List Value) ++ d4).toArray ∧ d4.length = 32 ∧ 
                                            Keep w16 w20 ∧
                                            ∃ q5, (∀ W, EqRun Tryz.prog W 46 (.agg (([.int .i64 x23, .int .u32 x24] : List Value) ++ d4).toArray) (.agg (([.int .i64 x21, .int .u32 x22] : List Value) ++ d3).toArray) q5) ∧
                                            (q5 = false →
                                              Q (.bool false) w20) ∧
                                            (q5 = true →
                                              Ret Tryz.prog 18 #[.pointer p1] w20 fun r12 w21 => ∃ (q6 : Bool), r12 = .bool q6 ∧ 
                                                (q6 = true →
                                                  Q (.bool false) w21) ∧
                                                (q6 = false →
                                                  I1 A12 n12 c12 (IntKind.i64.wrap (x4 + 1)) w21 ∧ μ1 A12 n12 c12 (IntKind.i64.wrap (x4 + 1)) w21 < μ1 A4 n4 c4 x4 w6))))))) ∧
                          ∃ J4 : Bool → World → Prop, (∀ (q8 : Bool) (w22 : World), J4 q8 w22 →
                            (q8 = true →
                              (x13 ≠ 0 →
                                Q (.bool false) w22) ∧
                              (x13 = 0 →
                                ∃ (x25 : Int), w22.cell? ⟨b2, 1, none⟩ = some (.int .i64 x25) ∧
                                ∃ b4 o2, A9 = some ⟨b4, o2, none⟩ ∧ (0 : Int) ≤ x25 ∧ x25 < ((n9 : Nat) : Int) ∧
                                ∃ (A15 : Option Addr) (n15 : Nat) (c15 : Nat), w22.cell? ⟨b4, (o2 + (x25).toNat * 1), none⟩ = some (.slice A15 n15 c15) ∧
                                Ret Tryz.prog 13 #[.slice A10 n10 c10, .slice A15 n15 c15] w22 fun r13 w23 => ∃ (q9 : Bool), r13 = .bool q9 ∧ 
                                  (q9 = false →
                                    Q (.bool false) w23) ∧
                                  (q9 = true →
                                    (q8 = false →
                                      (x13 ≠ 1 →
                                        Q (.bool false) w23) ∧
                                      (x13 = 1 →
                                        J3 (some ⟨b4, o2, none⟩) n9 c9 w23)) ∧
                                    (q8 = true →
                                      J3 (some ⟨b4, o2, none⟩) n9 c9 w23)))) ∧
                            (q8 = false →
                              (q8 = false →
                                (x13 ≠ 1 →
                                  Q (.bool false) w22) ∧
                                (x13 = 1 →
                                  J3 A9 n9 c9 w22)) ∧
                              (q8 = true →
                                J3 A9 n9 c9 w22))) ∧
                          ∃ (x26 : Int), w12.cell? ⟨b2, 1, none⟩ = some (.int .i64 x26) ∧
                          (x26 ≥ 0 →
                            ∃ (x27 : Int), w12.cell? ⟨b2, 1, none⟩ = some (.int .i64 x27) ∧
                            J4 (decide (x27 < ((n9 : Nat) : Int))) w12) ∧
                          (¬ x26 ≥ 0 →
                            J4 false w12))) ∧
                ∃ (x28 : Int), w8.cell? ⟨b2, 0, none⟩ = some (.int .u8 x28) ∧
                ((x28.tmod 2) = 0 →
                  Ret Tryz.prog 9 #[.slice A6 n6 c6] w8 fun r14 w24 => ∃ (A16 : Option Addr) (n16 : Nat) (c16 : Nat), r14 = .slice A16 n16 c16 ∧ 
                    J2 A16 n16 c16 w24) ∧
                ((x28.tmod 2) ≠ 0 →
                  J2 A6 n6 c6 w8)) ∧
              (¬ x4 < ((n3 : Nat) : Int) →
                Ret Tryz.prog 19 #[.pointer p1] w6 fun r15 w25 => ∃ (A17 : Option Addr) (n17 : Nat) (c17 : Nat) (x29 : Int), r15 = .tuple #[.slice A17 n17 c17, .int .i64 x29] ∧ 
                  (x29 = 0 →
                    Ret Tryz.prog 20 #[.slice A17 n17 c17, .slice A4 n4 c4] w25 fun r16 w26 => ∃ (q10 : Bool), r16 = .bool q10 ∧ 
                      (q10 = true →
                        Ret Tryz.prog 21 #[.pointer p1] w26 fun r17 w27 => ∃ (x30 : Int), r17 = .int .i64 x30 ∧ 
                          (x30 = x1 →
                            Ret Tryz.prog 7 #[] w27 fun r18 w28 => ∃ (q11 : Bool), r18 = .bool q11 ∧ 
                              Q (.bool q11) w28) ∧
                          (x30 ≠ x1 →
                            Q (.bool false) w27)) ∧
                      (q10 = false →
                        Q (.bool false) w26)) ∧
                  (x29 ≠ 0 →
                    Q (.bool false) w25)))) ∧
      (x2 ≠ x3 →
        J1 true w2) ∧
      (x2 = x3 →
        (x3 ≠ 0 →
          J1 true w2) ∧
        (x3 = 0 →
          (p1 = none →
            J1 true w2) ∧
          (p1 ≠ none →
            (x1 > 20 →
              J1 true w2) ∧
            (¬ x1 > 20 →
              Ret Tryz.prog 6 #[.slice A1 n1 c1] w2 fun r19 w29 => ∃ (q12 : Bool), r19 = .bool q12 ∧ 
                J1 q12 w29))))
theorem L_3 (x1 : Int) (A1 : Option Addr) (n1 : Nat) (c1 : Nat) (w : World) (Q : Value → World → Prop) (h : S_3 x1 A1 n1 c1 w Q) : Ret Tryz.prog 3 #[.int .i64 x1, .slice A1 n1 c1] w Q := by
  unfold S_3 at h
  refine ret_of_wp Tryz.func3 rfl ?_
  refine wp_seq ?_
  refine wp_reg ?_
  refine wl_end (by kernel_rfl) ?_
  refine then_normal ?_
  refine wp_seq ?_
  refine wp_reg ?_
  refine wl_pure 1 (by kernel_rfl) ?_
  refine wl_op (op_callf (args := #[.int .i64 x1]) rfl (by kernel_rfl) (by kernel_rfl) Tryz.call4 (Ret.mono h ?_))
  clear h; rintro r1 w1 ⟨p1, x2, rfl, h⟩
  refine wl_end (by kernel_rfl) ?_
  refine then_normal ?_
  refine wp_seq ?_
  refine wp_reg ?_
  refine wl_pure 1 (by kernel_rfl) ?_
  refine wl_op (op_callf (args := #[.int .i64 x1]) rfl (by kernel_rfl) (by kernel_rfl) Tryz.call5 (Ret.mono h ?_))
  clear h; rintro r2 w2 ⟨A2, n2, c2, x3, rfl, h⟩
  refine wl_end (by kernel_rfl) ?_
  refine then_normal ?_
  refine wp_seq ?_
  obtain ⟨J1, hJ1, h⟩ := h
  refine wp_seq_join (σ := Bool) (fun s u1 => ⟨#[.int .i64 x1, .slice A1 n1 c1, undef, undef, .bool false, .pointer p1, .int .i64 x2, .slice A2 n2 c2, .int .i64 x3, undef, undef, undef, undef, undef, undef, undef, undef, undef, undef, undef, undef, undef, .tuple #[.pointer p1, .int .i64 x2], .int .i64 x1, .tuple #[.pointer p1, .int .i64 x2], .pointer p1, .int .i64 x2, .tuple #[.slice A2 n2 c2, .int .i64 x3], .int .i64 x1, .tuple #[.slice A2 n2 c2, .int .i64 x3], .slice A2 n2 c2, .int .i64 x3, .int .i64 x2, .int .i64 x3, .bool (x2 != x3), u1 35, u1 36, u1 37, u1 38, u1 39, u1 40, u1 41, u1 42, u1 43, u1 44, u1 45, u1 46, u1 47, u1 48, u1 49, .bool s, undef, undef, undef, undef, undef, undef, undef, undef, undef, undef, undef, undef, undef, undef, undef, undef, undef, undef, undef, undef, undef, undef, undef, undef, undef, undef, undef, undef, undef, undef, undef, undef, undef, undef, undef, undef, undef, undef, undef, undef, undef, undef, undef, undef, undef, undef, undef, undef, undef, undef, undef, undef, undef, undef, undef, undef, undef, undef, undef, undef, undef, undef, undef, undef, undef, undef, undef, undef, undef, undef, undef, undef, undef, undef, undef, undef, undef, undef, undef, undef, undef, undef, undef, undef, undef, undef, undef, undef, undef, undef, undef, undef, undef, undef, undef, undef, undef, undef, undef, undef, undef, undef, undef, undef, undef, undef, undef, undef, undef, undef, undef, undef, undef, undef, undef, undef, undef, undef, undef, undef, undef, undef, undef, undef, undef, undef, undef, undef, undef, undef, undef, undef, undef, undef, undef, undef, undef, undef, undef, undef, undef, undef, undef, undef, undef], []⟩) (fun s w => J1 s w) ?_ ?_
  · clear h; rintro q2 u1 w3 hj
    have h := hJ1 q2 w3 hj; clear hj hJ1
    refine wp_cond_split (t := q2) (by kernel_rfl) (fun hb => ?_) (fun hb => ?_)
    · replace h := h.1 (hb)
      clear hb
      refine wp_seq ?_
      refine wp_reg ?_
      refine wl_pure 4 (by kernel_rfl) ?_
      refine wl_split (e := (x2 == x3)) ?_ ?_
      · intro hb; refine wl_lit 54 (e := (x2 == x3)) (b := true) (by kernel_rfl) hb ?_
        replace h := h.1 (eq_of_beq hb)
        clear hb
        refine wl_pure 1 (by kernel_rfl) ?_
        refine wl_op (op_ne_ptr_nil (p := p1) rfl (by kernel_rfl) (by kernel_rfl) (by kernel_rfl) Tryz.underlying23 ?_)
        refine wl_pure 5 (by kernel_rfl) ?_
        refine wl_split (e := ((!p1.isNone) == (x3 == 0))) ?_ ?_
        · intro hb; refine wl_lit 61 (e := ((!p1.isNone) == (x3 == 0))) (b := true) (by kernel_rfl) hb ?_
          replace h := h.1 (hb)
          clear hb
          refine wl_op (op_callf (args := #[]) rfl (by kernel_rfl) (by kernel_rfl) Tryz.call7 (Ret.mono h ?_))
          clear h; rintro r3 w4 ⟨q3, rfl, h⟩
          refine wl_end (by kernel_rfl) ?_
          refine then_normal ?_
          refine wp_ret ?_
          refine then_ret ?_
          exact rp_ret (v := .bool q3) (by kernel_rfl) (by kernel_rfl) h
        · intro hb; refine wl_lit 61 (e := ((!p1.isNone) == (x3 == 0))) (b := false) (by kernel_rfl) hb ?_
          replace h := h.2 (hb)
          clear hb
          refine wl_end (by kernel_rfl) ?_
          refine then_normal ?_
          refine wp_ret ?_
          refine then_ret ?_
          exact rp_ret (v := .bool false) (by kernel_rfl) (by kernel_rfl) h
      · intro hb; refine wl_lit 54 (e := (x2 == x3)) (b := false) (by kernel_rfl) hb ?_
        replace h := h.2 (ne_of_beq_false hb)
        clear hb
        refine wl_end (by kernel_rfl) ?_
        refine then_normal ?_
        refine wp_ret ?_
        refine then_ret ?_
        exact rp_ret (v := .bool false) (by kernel_rfl) (by kernel_rfl) h
    · replace h := h.2 (hb)
      clear hb
      refine wp_skip ?_
      refine then_normal ?_
      refine wp_seq ?_
      refine wp_seq ?_
      refine wp_reg ?_
      refine wl_pure 1 (by kernel_rfl) ?_
      refine wl_op (op_callf (args := #[.slice A1 n1 c1]) rfl (by kernel_rfl) (by kernel_rfl) Tryz.call8 (Ret.mono h ?_))
      clear h; rintro r4 w5 ⟨A3, n3, c3, rfl, h⟩
      refine wl_end (by kernel_rfl) ?_
      refine then_normal ?_
      refine wp_block ?_
      obtain ⟨I1, μ1, hI1, hB1⟩ := h
      refine wp_loop_st (σ := (Option Addr) × Nat × Nat × Int) (fun s a => ∃ u1 : Nat → Value, a = ⟨#[.int .i64 x1, .slice A1 n1 c1, undef, undef, u1 4, .pointer p1, .int .i64 x2, .slice s.1 s.2.1 s.2.2.1, .int .i64 x3, undef, u1 10, u1 11, u1 12, u1 13, u1 14, u1 15, u1 16, u1 17, u1 18, u1 19, undef, undef, .tuple #[.pointer p1, .int .i64 x2], .int .i64 x1, .tuple #[.pointer p1, .int .i64 x2], .pointer p1, .int .i64 x2, .tuple #[.slice A2 n2 c2, .int .i64 x3], .int .i64 x1, .tuple #[.slice A2 n2 c2, .int .i64 x3], .slice A2 n2 c2, .int .i64 x3, .int .i64 x2, .int .i64 x3, .bool (x2 != x3), (u1 35), (u1 36), (u1 37), (u1 38), (u1 39), (u1 40), (u1 41), (u1 42), (u1 43), (u1 44), (u1 45), (u1 46), (u1 47), (u1 48), (u1 49), .bool q2, undef, undef, undef, undef, undef, undef, undef, undef, undef, undef, undef, undef, undef, .slice A1 n1 c1, .slice A3 n3 c3, .int .i64 ((n3 : Nat) : Int), .int .i64 s.2.2.2, u1 68, u1 69, u1 70, u1 71, u1 72, u1 73, u1 74, u1 75, u1 76, u1 77, u1 78, u1 79, u1 80, u1 81, u1 82, u1 83, u1 84, u1 85, u1 86, u1 87, u1 88, u1 89, u1 90, u1 91, u1 92, u1 93, u1 94, u1 95, u1 96, u1 97, u1 98, u1 99, u1 100, u1 101, u1 102, u1 103, u1 104, u1 105, u1 106, u1 107, u1 108, u1 109, u1 110, u1 111, u1 112, u1 113, u1 114, u1 115, u1 116, u1 117, u1 118, u1 119, u1 120, u1 121, u1 122, u1 123, u1 124, u1 125, u1 126, u1 127, u1 128, u1 129, u1 130, u1 131, u1 132, u1 133, u1 134, u1 135, u1 136, u1 137, u1 138, u1 139, u1 140, u1 141, u1 142, u1 143, u1 144, u1 145, u1 146, u1 147, u1 148, u1 149, u1 150, u1 151, u1 152, u1 153, u1 154, u1 155, u1 156, u1 157, u1 158, u1 159, u1 160, u1 161, u1 162, u1 163, u1 164, u1 165, u1 166, u1 167, u1 168, u1 169, u1 170, u1 171, u1 172, u1 173, u1 174, undef, undef, undef, undef, undef, undef, undef, undef, undef, undef, undef, undef, undef, undef, undef, undef, undef, undef, undef, undef, undef], []⟩) (fun s w => I1 s.1 s.2.1 s.2.2.1 s.2.2.2 w) (fun s w => μ1 s.1 s.2.1 s.2.2.1 s.2.2.2 w) (A2, n2, c2, 0) (enc_intro (by kernel_rfl)) hI1 ?_
      clear hI1
      rintro ⟨A4, n4, c4, x4⟩ a w6 ⟨u1, rfl⟩ hI1
      have h := hB1 A4 n4 c4 x4 w6 hI1
      clear hI1 hB1
      refine wp_seq ?_
      refine wp_reg ?_
      refine wl_end (by kernel_rfl) ?_
      refine then_normal ?_
      refine wp_seq ?_
      refine wp_cond_split (t := (decide (x4 < ((n3 : Nat) : Int)))) (by kernel_rfl) (fun hb => ?_) (fun hb => ?_)
      · replace h := h.1 (of_decide_eq_true hb)
        clear hb
        refine wp_skip ?_
        refine then_normal ?_
        refine wp_seq ?_
        refine wp_block ?_
        refine wp_seq ?_
        refine wp_reg ?_
        obtain ⟨b1, o1, rfl, h⟩ := h
        obtain ⟨h1, h2, h⟩ := h
        refine wl_op (op_index (k := .i64) (j := x4) (b := b1) (off := o1) (n := n3) (c := c3) rfl (by kernel_rfl) (by kernel_rfl) (by kernel_rfl) Tryz.underlying22 Tryz.sizeOf36 h1 h2 ?_)
        clear h1 h2
        obtain ⟨x5, x6, A5, n5, c5, x7, hx, h⟩ := h
        refine wl_op (op_loadN (cs := ([.int .u8 x5, .int .i64 x6, .slice A5 n5 c5, .int .u32 x7] : List Value)) rfl (by kernel_rfl) (by kernel_rfl) Tryz.isAgg36 Tryz.sizeOf36 (by simp []) hx ?_)
        clear hx
        refine wl_op (op_alloc rfl (by kernel_rfl) Tryz.zeroValue36 ?_)
        intro b2 w7 e1 e2; replace h := h b2 w7 e1 e2; clear e1 e2
        obtain ⟨hw, h⟩ := h
        refine wl_op (op_storeN (cs := ([.int .u8 x5, .int .i64 x6, .slice A5 n5 c5, .int .u32 x7] : List Value)) rfl (by kernel_rfl) (by kernel_rfl) (by kernel_rfl) Tryz.sizeOf36 rfl (one_of (by kernel_rfl)) hw ?_)
        intro w8 e1; replace h := h w8 e1; clear hw e1
        refine wl_nil ?_
        refine then_normal ?_
        refine wp_seq ?_
        refine wp_reg ?_
        refine wl_pure 1 (by kernel_rfl) ?_
        obtain ⟨A6, n6, c6, hx, h⟩ := h
        refine wl_op (op_load (v := .slice A6 n6 c6) rfl (by kernel_rfl) (by kernel_rfl) Tryz.isAgg33 hx ?_)
        clear hx
        refine wl_end (by kernel_rfl) ?_
        refine then_normal ?_
        obtain ⟨J2, hJ2, h⟩ := h
        refine wp_seq_join (σ := (Option Addr) × Nat × Nat) (fun s u2 => ⟨#[.int .i64 x1, .slice A1 n1 c1, undef, undef, (u1 4), .pointer p1, .int .i64 x2, .slice A4 n4 c4, .int .i64 x3, undef, .pointer (some ⟨b2, 0, none⟩), .slice s.1 s.2.1 s.2.2, (u1 12), (u1 13), (u1 14), (u1 15), (u1 16), (u1 17), (u1 18), (u1 19), undef, undef, .tuple #[.pointer p1, .int .i64 x2], .int .i64 x1, .tuple #[.pointer p1, .int .i64 x2], .pointer p1, .int .i64 x2, .tuple #[.slice A2 n2 c2, .int .i64 x3], .int .i64 x1, .tuple #[.slice A2 n2 c2, .int .i64 x3], .slice A2 n2 c2, .int .i64 x3, .int .i64 x2, .int .i64 x3, .bool (x2 != x3), (u1 35), (u1 36), (u1 37), (u1 38), (u1 39), (u1 40), (u1 41), (u1 42), (u1 43), (u1 44), (u1 45), (u1 46), (u1 47), (u1 48), (u1 49), .bool q2, undef, undef, undef, undef, undef, undef, undef, undef, undef, undef, undef, undef, undef, .slice A1 n1 c1, .slice (some ⟨b1, o1, none⟩) n3 c3, .int .i64 ((n3 : Nat) : Int), .int .i64 x4, .bool (decide (x4 < ((n3 : Nat) : Int))), .pointer (some ⟨b1, (o1 + (x4).toNat * 4), none⟩), .agg ([.int .u8 x5, .int .i64 x6, .slice A5 n5 c5, .int .u32 x7] : List Value).toArray, .pointer (some ⟨b2, 2, none⟩), .slice A6 n6 c6, .pointer (some ⟨b2, 0, none⟩), u2 74, u2 75, u2 76, u2 77, u2 78, (u1 79), (u1 80), (u1 81), (u1 82), (u1 83), (u1 84), (u1 85), (u1 86), (u1 87), (u1 88), (u1 89), (u1 90), (u1 91), (u1 92), (u1 93), (u1 94), (u1 95), (u1 96), (u1 97), (u1 98), (u1 99), (u1 100), (u1 101), (u1 102), (u1 103), (u1 104), (u1 105), (u1 106), (u1 107), (u1 108), (u1 109), (u1 110), (u1 111), (u1 112), (u1 113), (u1 114), (u1 115), (u1 116), (u1 117), (u1 118), (u1 119), (u1 120), (u1 121), (u1 122), (u1 123), (u1 124), (u1 125), (u1 126), (u1 127), (u1 128), (u1 129), (u1 130), (u1 131), (u1 132), (u1 133), (u1 134), (u1 135), (u1 136), (u1 137), (u1 138), (u1 139), (u1 140), (u1 141), (u1 142), (u1 143), (u1 144), (u1 145), (u1 146), (u1 147), (u1 148), (u1 149), (u1 150), (u1 151), (u1 152), (u1 153), (u1 154), (u1 155), (u1 156), (u1 157), (u1 158), (u1 159), (u1 160), (u1 161), (u1 162), (u1 163), (u1 164), (u1 165), (u1 166), (u1 167), (u1 168), (u1 169), (u1 170), (u1 171), (u1 172), (u1 173), (u1 174), undef, undef, undef, undef, undef, undef, undef, undef, undef, undef, undef, undef, undef, undef, undef, undef, undef, undef, undef, undef, undef], []⟩) (fun s w => J2 s.1 s.2.1 s.2.2 w) ?_ ?_
        · clear h; rintro ⟨A8, n8, c8⟩ u2 w9 hj
          have h := hJ2 A8 n8 c8 w9 hj; clear hj hJ2
          refine wp_seq ?_
          refine wp_reg ?_
          refine wl_pure 2 (by kernel_rfl) ?_
          obtain ⟨x8, hx, h⟩ := h
          refine wl_op (op_load (v := .int .i64 x8) rfl (by kernel_rfl) (by kernel_rfl) Tryz.isAgg3 hx ?_)
          clear hx
          refine wl_pure 1 (by kernel_rfl) ?_
          refine wl_op (op_callf (args := #[.slice A4 n4 c4, .int .i64 x8, .slice A8 n8 c8]) rfl (by kernel_rfl) (by kernel_rfl) Tryz.call10 (Ret.mono h ?_))
          clear h; rintro r5 w10 ⟨A9, n9, c9, x9, rfl, h⟩
          refine wl_end (by kernel_rfl) ?_
          refine then_normal ?_
          refine wp_seq ?_
          refine wp_seq ?_
          refine wp_reg ?_
          refine wl_pure 2 (by kernel_rfl) ?_
          obtain ⟨x10, hx, h⟩ := h
          refine wl_op (op_load (v := .int .i64 x10) rfl (by kernel_rfl) (by kernel_rfl) Tryz.isAgg3 hx ?_)
          clear hx
          refine wl_pure 1 (by kernel_rfl) ?_
          refine wl_op (op_callf (args := #[.pointer p1, .int .i64 x10, .slice A8 n8 c8]) rfl (by kernel_rfl) (by kernel_rfl) Tryz.call11 (Ret.mono h ?_))
          clear h; rintro r6 w11 ⟨x11, rfl, h⟩
          refine wl_end (by kernel_rfl) ?_
          refine then_normal ?_
          refine wp_cond_split (t := (x11 != x9)) (by kernel_rfl) (fun hb => ?_) (fun hb => ?_)
          · replace h := h.1 (bne_iff_ne.1 hb)
            clear hb
            refine wp_seq ?_
            refine wp_reg ?_
            refine wl_end (by kernel_rfl) ?_
            refine then_normal ?_
            refine wp_ret ?_
            refine then_ret ?_
            refine block_ret ?_
            refine then_ret ?_
            refine then_ret ?_
            refine block_ret ?_
            refine then_ret ?_
            exact rp_ret (v := .bool false) (by kernel_rfl) (by kernel_rfl) h
          · replace h := h.2 (bne_false hb)
            clear hb
            refine wp_skip ?_
            refine then_normal ?_
            refine wp_seq ?_
            refine wp_reg ?_
            refine wl_end (by kernel_rfl) ?_
            refine then_normal ?_
            refine wp_seq ?_
            refine wp_reg ?_
            refine wl_pure 2 (by kernel_rfl) ?_
            obtain ⟨x12, hx, h⟩ := h
            refine wl_op (op_load (v := .int .i64 x12) rfl (by kernel_rfl) (by kernel_rfl) Tryz.isAgg3 hx ?_)
            clear hx
            refine wl_op (op_callf (args := #[.pointer p1, .int .i64 x12]) rfl (by kernel_rfl) (by kernel_rfl) Tryz.call12 (Ret.mono h ?_))
            clear h; rintro r7 w12 ⟨A10, n10, c10, x13, rfl, h⟩
            refine wl_end (by kernel_rfl) ?_
            refine then_normal ?_
            obtain ⟨J3, hJ3, h⟩ := h
            refine wp_seq_join (σ := (Option Addr) × Nat × Nat) (fun s u3 => ⟨#[.int .i64 x1, .slice A1 n1 c1, undef, undef, (u1 4), .pointer p1, .int .i64 x2, .slice s.1 s.2.1 s.2.2, .int .i64 x3, undef, .pointer (some ⟨b2, 0, none⟩), .slice A8 n8 c8, u3 12, .int .i64 x9, .slice A10 n10 c10, .int .i64 x13, u3 16, (u1 17), (u1 18), (u1 19), undef, undef, .tuple #[.pointer p1, .int .i64 x2], .int .i64 x1, .tuple #[.pointer p1, .int .i64 x2], .pointer p1, .int .i64 x2, .tuple #[.slice A2 n2 c2, .int .i64 x3], .int .i64 x1, .tuple #[.slice A2 n2 c2, .int .i64 x3], .slice A2 n2 c2, .int .i64 x3, .int .i64 x2, .int .i64 x3, .bool (x2 != x3), (u1 35), (u1 36), (u1 37), (u1 38), (u1 39), (u1 40), (u1 41), (u1 42), (u1 43), (u1 44), (u1 45), (u1 46), (u1 47), (u1 48), (u1 49), .bool q2, undef, undef, undef, undef, undef, undef, undef, undef, undef, undef, undef, undef, undef, .slice A1 n1 c1, .slice (some ⟨b1, o1, none⟩) n3 c3, .int .i64 ((n3 : Nat) : Int), .int .i64 x4, .bool (decide (x4 < ((n3 : Nat) : Int))), .pointer (some ⟨b1, (o1 + (x4).toNat * 4), none⟩), .agg ([.int .u8 x5, .int .i64 x6, .slice A5 n5 c5, .int .u32 x7] : List Value).toArray, .pointer (some ⟨b2, 2, none⟩), .slice A6 n6 c6, .pointer (some ⟨b2, 0, none⟩), (u2 74), (u2 75), (u2 76), (u2 77), (u2 78), u3 79, .slice A4 n4 c4, .pointer (some ⟨b2, 1, none⟩), .int .i64 x8, .slice A8 n8 c8, u3 84, u3 85, .int .i64 x9, .pointer p1, .pointer (some ⟨b2, 1, none⟩), .int .i64 x10, .slice A8 n8 c8, .int .i64 x11, .int .i64 x9, .bool (x11 != x9), u3 94, .tuple #[.slice A10 n10 c10, .int .i64 x13], .pointer p1, .pointer (some ⟨b2, 1, none⟩), .int .i64 x12, .tuple #[.slice A10 n10 c10, .int .i64 x13], .slice A10 n10 c10, .int .i64 x13, .pointer (some ⟨b2, 1, none⟩), u3 103, u3 104, u3 105, u3 106, u3 107, u3 108, u3 109, u3 110, u3 111, u3 112, u3 113, u3 114, u3 115, u3 116, u3 117, u3 118, u3 119, u3 120, u3 121, u3 122, u3 123, u3 124, u3 125, u3 126, .bool false, u3 128, u3 129, u3 130, u3 131, u3 132, u3 133, u3 134, (u1 135), (u1 136), (u1 137), (u1 138), (u1 139), (u1 140), (u1 141), (u1 142), (u1 143), (u1 144), (u1 145), (u1 146), (u1 147), (u1 148), (u1 149), (u1 150), (u1 151), (u1 152), (u1 153), (u1 154), (u1 155), (u1 156), (u1 157), (u1 158), (u1 159), (u1 160), (u1 161), (u1 162), (u1 163), (u1 164), (u1 165), (u1 166), (u1 167), (u1 168), (u1 169), (u1 170), (u1 171), (u1 172), (u1 173), (u1 174), undef, undef, undef, undef, undef, undef, undef, undef, undef, undef, undef, undef, undef, undef, undef, undef, undef, undef, undef, undef, undef], []⟩) (fun s w => J3 s.1 s.2.1 s.2.2 w) ?_ ?_
            · clear h; rintro ⟨A12, n12, c12⟩ u3 w13 hj
              have h := hJ3 A12 n12 c12 w13 hj; clear hj hJ3
              refine wp_seq ?_
              refine wp_reg ?_
              refine wl_pure 2 (by kernel_rfl) ?_
              obtain ⟨x14, hx, h⟩ := h
              refine wl_op (op_load (v := .int .u32 x14) rfl (by kernel_rfl) (by kernel_rfl) Tryz.isAgg34 hx ?_)
              clear hx
              refine wl_op (op_callf (args := #[.pointer p1, .int .u32 x14]) rfl (by kernel_rfl) (by kernel_rfl) Tryz.call14 (Ret.mono h ?_))
              clear h; rintro r8 w14 ⟨A13, n13, c13, x15, x16, d1, x17, rfl, hl0, h⟩
              refine wl_pure 4 (by kernel_rfl) ?_
              refine wl_op (op_alloc rfl (by kernel_rfl) Tryz.zeroValue46 ?_)
              intro b3 w15 e1 e2; replace h := h b3 w15 e1 e2; clear e1 e2
              refine wl_pure 1 (by kernel_rfl) ?_
              obtain ⟨hl, h1, hw, h⟩ := h
              refine wl_op (op_storeN (cs := (([.int .i64 x15, .int .u32 x16] : List Value) ++ d1)) rfl (by kernel_rfl) (by kernel_rfl) (by kernel_rfl) Tryz.sizeOf46 hl h1 hw ?_)
              intro w16 e1; replace h := h w16 e1; clear hl h1 hw e1
              refine wl_end (by kernel_rfl) ?_
              refine then_normal ?_
              refine wp_seq ?_
              refine wd_begin (by kernel_rfl) (Keep w16) [29] ?_
              intro w17 e1; have hK1 := keep_drew e1; replace h := h w17 e1; clear e1
              refine wd_takeP 0 rfl (by kernel_rfl) (fun _ _ _ h => h) (y_pure (v := .slice A13 n13 c13) (by kernel_rfl) (by kernel_rfl)) ?_
              refine wd_takeP 1 rfl (by kernel_rfl) (fun _ _ _ h => h) (y_pure (v := .int .i64 ((n13 : Nat) : Int)) (by kernel_rfl) (by kernel_rfl)) ?_
              refine wd_takeP 2 rfl (by kernel_rfl) (fun _ _ _ h => h) (y_pure (v := .pointer p1) (by kernel_rfl) (by kernel_rfl)) ?_
              refine wd_one 3 rfl (by kernel_rfl) (by kernel_rfl) (op_callf (args := #[.pointer p1]) rfl (by kernel_rfl) (by kernel_rfl) Tryz.call15 (Ret.mono h ?_))
              clear h; rintro r9 w18 ⟨A14, n14, c14, rfl, h⟩
              obtain ⟨hK2, h⟩ := h
              refine ⟨fun _ _ => hK2, ?_⟩
              refine wd_takeP 4 rfl (by kernel_rfl) (fun _ _ _ h => h) (y_pure (v := .int .i64 ((n14 : Nat) : Int)) (by kernel_rfl) (by kernel_rfl)) ?_
              refine wd_takeP 5 rfl (by kernel_rfl) (fun _ _ _ h => h) (y_pure (v := .int .i64 (IntKind.i64.wrap (((n13 : Nat) : Int) + ((n14 : Nat) : Int)))) (by kernel_rfl) (by kernel_rfl)) ?_
              refine wd_takeP 6 rfl (by kernel_rfl) (fun _ _ _ h => h) (y_pure (v := .bool ((IntKind.i64.wrap (((n13 : Nat) : Int) + ((n14 : Nat) : Int))) != 0)) (by kernel_rfl) (by kernel_rfl)) ?_
              refine wd_takeP 7 rfl (by kernel_rfl) (fun _ _ _ h => h) (y_pure (v := .bool ((IntKind.i64.wrap (((n13 : Nat) : Int) + ((n14 : Nat) : Int))) != 0)) (by kernel_rfl) (by kernel_rfl)) ?_
              refine wd_split (e := ((IntKind.i64.wrap (((n13 : Nat) : Int) + ((n14 : Nat) : Int))) != 0)) ?_ ?_
              · intro hb; refine wd_lit 150 (e := ((IntKind.i64.wrap (((n13 : Nat) : Int) + ((n14 : Nat) : Int))) != 0)) (b := true) (by kernel_rfl) hb ?_
                replace h := h.1 (bne_iff_ne.1 hb)
                clear hb
                refine wd_take 8 rfl (by kernel_rfl) (fun _ _ _ h => h) (y_skip (by kernel_rfl)) hK2 ?_
                refine wd_takeP 9 rfl (by kernel_rfl) (fun _ _ _ h => h) (y_skip (by kernel_rfl)) ?_
                refine wd_takeP 10 rfl (by kernel_rfl) (fun _ _ _ h => h) (y_skip (by kernel_rfl)) ?_
                refine wd_takeP 11 rfl (by kernel_rfl) (fun _ _ _ h => h) (y_pure (v := .bool true) (by kernel_rfl) (by kernel_rfl)) ?_
                refine wd_takeP 12 rfl (by kernel_rfl) (fun _ _ _ h => h) (y_pure (v := .bool true) (by kernel_rfl) (by kernel_rfl)) ?_
                refine wd_takeP 13 rfl (by kernel_rfl) (fun _ _ _ h => h) (y_skip (by kernel_rfl)) ?_
                refine wd_takeP 14 rfl (by kernel_rfl) (fun _ _ _ h => h) (y_skip (by kernel_rfl)) ?_
                refine wd_takeP 15 rfl (by kernel_rfl) (fun _ _ _ h => h) (y_pure (v := .bool true) (by kernel_rfl) (by kernel_rfl)) ?_
                refine wd_takeP 16 rfl (by kernel_rfl) (fun _ _ _ h => h) (y_pure (v := .bool true) (by kernel_rfl) (by kernel_rfl)) ?_
                refine wd_takeP 17 rfl (by kernel_rfl) (fun _ _ _ h => h) (y_skip (by kernel_rfl)) ?_
                refine wd_takeP 18 rfl (by kernel_rfl) (fun _ _ _ h => h) (y_skip (by kernel_rfl)) ?_
                refine wd_takeP 19 rfl (by kernel_rfl) (fun _ _ _ h => h) (y_skip (by kernel_rfl)) ?_
                refine wd_takeP 20 rfl (by kernel_rfl) (fun _ _ _ h => h) (y_pure (v := .bool true) (by kernel_rfl) (by kernel_rfl)) ?_
                refine wd_takeP 21 rfl (by kernel_rfl) (fun _ _ _ h => h) (y_pure (v := .bool true) (by kernel_rfl) (by kernel_rfl)) ?_
                refine wd_takeP 22 rfl (by kernel_rfl) (fun _ _ _ h => h) (y_skip (by kernel_rfl)) ?_
                refine wd_takeP 23 rfl (by kernel_rfl) (fun _ _ _ h => h) (y_skip (by kernel_rfl)) ?_
                refine wd_take 24 rfl (by kernel_rfl) (fun _ _ _ h => h) (y_skip (by kernel_rfl)) hK2 ?_
                refine wd_takeP 25 rfl (by kernel_rfl) (fun _ _ _ h => h) (y_skip (by kernel_rfl)) ?_
                refine wd_takeP 26 rfl (by kernel_rfl) (fun _ _ _ h => h) (y_pure (v := .bool true) (by kernel_rfl) (by kernel_rfl)) ?_
                refine wd_takeP 27 rfl (by kernel_rfl) (fun _ _ _ h => h) (y_pure (v := .bool true) (by kernel_rfl) (by kernel_rfl)) ?_
                refine wd_takeP 28 rfl (by kernel_rfl) (fun _ _ _ h => h) (y_skip (by kernel_rfl)) ?_
                refine wd_takeP 29 rfl (by kernel_rfl) (fun _ _ _ h => h) (y_skip (by kernel_rfl)) ?_
                refine wd_takeP 30 rfl (by kernel_rfl) (fun _ _ _ h => h) (y_pure (v := .bool true) (by kernel_rfl) (by kernel_rfl)) ?_
                refine wd_done (by kernel_rfl) ?_
                refine then_normal ?_
                refine wp_cond_true (by kernel_rfl) ?_
                refine wp_seq ?_
                refine wp_reg ?_
                refine wl_end (by kernel_rfl) ?_
                refine then_normal ?_
                refine wp_ret ?_
                refine block_ret ?_
                refine then_ret ?_
                refine then_ret ?_
                refine block_ret ?_
                refine then_ret ?_
                exact rp_ret (v := .bool false) (by kernel_rfl) (by kernel_rfl) h
              · intro hb; refine wd_lit 150 (e := ((IntKind.i64.wrap (((n13 : Nat) : Int) + ((n14 : Nat) : Int))) != 0)) (b := false) (by kernel_rfl) hb ?_
                replace h := h.2 (bne_false hb)
                clear hb
                obtain ⟨x18, x19, d2, hl0, hx, h⟩ := h
                refine wd_take 8 rfl (by kernel_rfl) (fun _ _ _ h => h) (y_loadN (cs := (([.int .i64 x18, .int .u32 x19] : List Value) ++ d2)) rfl (by kernel_rfl) (by kernel_rfl) Tryz.isAgg46 Tryz.sizeOf46 (by simp [hl0]) (fun _ hk => keep_range hk hx)) hK2 ?_
                clear hx
                refine wd_takeP 9 rfl (by kernel_rfl) (fun _ _ _ h => h) (y_pure (v := .agg ([.int .i64 0, .int .u32 0, .int .u8 0, .int .u8 0, .int .u8 0, .int .u8 0, .int .u8 0, .int .u8 0, .int .u8 0, .int .u8 0, .int .u8 0, .int .u8 0, .int .u8 0, .int .u8 0, .int .u8 0, .int .u8 0, .int .u8 0, .int .u8 0, .int .u8 0, .int .u8 0, .int .u8 0, .int .u8 0, .int .u8 0, .int .u8 0, .int .u8 0, .int .u8 0, .int .u8 0, .int .u8 0, .int .u8 0, .int .u8 0, .int .u8 0, .int .u8 0, .int .u8 0, .int .u8 0] : List Value).toArray) (by kernel_rfl) (by kernel_rfl)) ?_
                obtain ⟨q4, h1, h⟩ := h
                refine wd_takeP 10 rfl (by kernel_rfl) (fun _ _ _ h => h) (y_ne_any (x := .agg (([.int .i64 x18, .int .u32 x19] : List Value) ++ d2).toArray) (y := .agg ([.int .i64 0, .int .u32 0, .int .u8 0, .int .u8 0, .int .u8 0, .int .u8 0, .int .u8 0, .int .u8 0, .int .u8 0, .int .u8 0, .int .u8 0, .int .u8 0, .int .u8 0, .int .u8 0, .int .u8 0, .int .u8 0, .int .u8 0, .int .u8 0, .int .u8 0, .int .u8 0, .int .u8 0, .int .u8 0, .int .u8 0, .int .u8 0, .int .u8 0, .int .u8 0, .int .u8 0, .int .u8 0, .int .u8 0, .int .u8 0, .int .u8 0, .int .u8 0, .int .u8 0, .int .u8 0] : List Value).toArray) (b := q4) rfl (by kernel_rfl) (by kernel_rfl) (by kernel_rfl) h1) ?_
                clear h1
                refine wd_takeP 11 rfl (by kernel_rfl) (fun _ _ _ h => h) (y_pure (v := .bool (!q4)) (by kernel_rfl) (by kernel_rfl)) ?_
                refine wd_takeP 12 rfl (by kernel_rfl) (fun _ _ _ h => h) (y_pure (v := .bool (!q4)) (by kernel_rfl) (by kernel_rfl)) ?_
                refine wd_split (e := (!q4)) ?_ ?_
                · intro hb; refine wd_lit 155 (e := (!q4)) (b := true) (by kernel_rfl) hb ?_
                  replace h := h.1 ((not_flip hb))
                  clear hb
                  refine wd_takeP 13 rfl (by kernel_rfl) (fun _ _ _ h => h) (y_skip (by kernel_rfl)) ?_
                  refine wd_takeP 14 rfl (by kernel_rfl) (fun _ _ _ h => h) (y_skip (by kernel_rfl)) ?_
                  refine wd_takeP 15 rfl (by kernel_rfl) (fun _ _ _ h => h) (y_pure (v := .bool true) (by kernel_rfl) (by kernel_rfl)) ?_
                  refine wd_takeP 16 rfl (by kernel_rfl) (fun _ _ _ h => h) (y_pure (v := .bool true) (by kernel_rfl) (by kernel_rfl)) ?_
                  refine wd_takeP 17 rfl (by kernel_rfl) (fun _ _ _ h => h) (y_skip (by kernel_rfl)) ?_
                  refine wd_takeP 18 rfl (by kernel_rfl) (fun _ _ _ h => h) (y_skip (by kernel_rfl)) ?_
                  refine wd_takeP 19 rfl (by kernel_rfl) (fun _ _ _ h => h) (y_skip (by kernel_rfl)) ?_
                  refine wd_takeP 20 rfl (by kernel_rfl) (fun _ _ _ h => h) (y_pure (v := .bool true) (by kernel_rfl) (by kernel_rfl)) ?_
                  refine wd_takeP 21 rfl (by kernel_rfl) (fun _ _ _ h => h) (y_pure (v := .bool true) (by kernel_rfl) (by kernel_rfl)) ?_
                  refine wd_takeP 22 rfl (by kernel_rfl) (fun _ _ _ h => h) (y_skip (by kernel_rfl)) ?_
                  refine wd_takeP 23 rfl (by kernel_rfl) (fun _ _ _ h => h) (y_skip (by kernel_rfl)) ?_
                  refine wd_take 24 rfl (by kernel_rfl) (fun _ _ _ h => h) (y_skip (by kernel_rfl)) hK2 ?_
                  refine wd_takeP 25 rfl (by kernel_rfl) (fun _ _ _ h => h) (y_skip (by kernel_rfl)) ?_
                  refine wd_takeP 26 rfl (by kernel_rfl) (fun _ _ _ h => h) (y_pure (v := .bool true) (by kernel_rfl) (by kernel_rfl)) ?_
                  refine wd_takeP 27 rfl (by kernel_rfl) (fun _ _ _ h => h) (y_pure (v := .bool true) (by kernel_rfl) (by kernel_rfl)) ?_
                  refine wd_takeP 28 rfl (by kernel_rfl) (fun _ _ _ h => h) (y_skip (by kernel_rfl)) ?_
                  refine wd_takeP 29 rfl (by kernel_rfl) (fun _ _ _ h => h) (y_skip (by kernel_rfl)) ?_
                  refine wd_takeP 30 rfl (by kernel_rfl) (fun _ _ _ h => h) (y_pure (v := .bool true) (by kernel_rfl) (by kernel_rfl)) ?_
                  refine wd_done (by kernel_rfl) ?_
                  refine then_normal ?_
                  refine wp_cond_true (by kernel_rfl) ?_
                  refine wp_seq ?_
                  refine wp_reg ?_
                  refine wl_end (by kernel_rfl) ?_
                  refine then_normal ?_
                  refine wp_ret ?_
                  refine block_ret ?_
                  refine then_ret ?_
                  refine then_ret ?_
                  refine block_ret ?_
                  refine then_ret ?_
                  exact rp_ret (v := .bool false) (by kernel_rfl) (by kernel_rfl) h
                · intro hb; refine wd_lit 155 (e := (!q4)) (b := false) (by kernel_rfl) hb ?_
                  replace h := h.2 ((not_flip hb))
                  clear hb
                  refine wd_takeP 13 rfl (by kernel_rfl) (fun _ _ _ h => h) (y_pure (v := .int .i64 x17) (by kernel_rfl) (by kernel_rfl)) ?_
                  refine wd_takeP 14 rfl (by kernel_rfl) (fun _ _ _ h => h) (y_pure (v := .bool (x17 != 0)) (by kernel_rfl) (by kernel_rfl)) ?_
                  refine wd_takeP 15 rfl (by kernel_rfl) (fun _ _ _ h => h) (y_pure (v := .bool (x17 != 0)) (by kernel_rfl) (by kernel_rfl)) ?_
                  refine wd_takeP 16 rfl (by kernel_rfl) (fun _ _ _ h => h) (y_pure (v := .bool (x17 != 0)) (by kernel_rfl) (by kernel_rfl)) ?_
                  refine wd_split (e := (x17 != 0)) ?_ ?_
                  · intro hb; refine wd_lit 159 (e := (x17 != 0)) (b := true) (by kernel_rfl) hb ?_
                    replace h := h.1 (bne_iff_ne.1 hb)
                    clear hb
                    refine wd_takeP 17 rfl (by kernel_rfl) (fun _ _ _ h => h) (y_skip (by kernel_rfl)) ?_
                    refine wd_takeP 18 rfl (by kernel_rfl) (fun _ _ _ h => h) (y_skip (by kernel_rfl)) ?_
                    refine wd_takeP 19 rfl (by kernel_rfl) (fun _ _ _ h => h) (y_skip (by kernel_rfl)) ?_
                    refine wd_takeP 20 rfl (by kernel_rfl) (fun _ _ _ h => h) (y_pure (v := .bool true) (by kernel_rfl) (by kernel_rfl)) ?_
                    refine wd_takeP 21 rfl (by kernel_rfl) (fun _ _ _ h => h) (y_pure (v := .bool true) (by kernel_rfl) (by kernel_rfl)) ?_
                    refine wd_takeP 22 rfl (by kernel_rfl) (fun _ _ _ h => h) (y_skip (by kernel_rfl)) ?_
                    refine wd_takeP 23 rfl (by kernel_rfl) (fun _ _ _ h => h) (y_skip (by kernel_rfl)) ?_
                    refine wd_take 24 rfl (by kernel_rfl) (fun _ _ _ h => h) (y_skip (by kernel_rfl)) hK2 ?_
                    refine wd_takeP 25 rfl (by kernel_rfl) (fun _ _ _ h => h) (y_skip (by kernel_rfl)) ?_
                    refine wd_takeP 26 rfl (by kernel_rfl) (fun _ _ _ h => h) (y_pure (v := .bool true) (by kernel_rfl) (by kernel_rfl)) ?_
                    refine wd_takeP 27 rfl (by kernel_rfl) (fun _ _ _ h => h) (y_pure (v := .bool true) (by kernel_rfl) (by kernel_rfl)) ?_
                    refine wd_takeP 28 rfl (by kernel_rfl) (fun _ _ _ h => h) (y_skip (by kernel_rfl)) ?_
                    refine wd_takeP 29 rfl (by kernel_rfl) (fun _ _ _ h => h) (y_skip (by kernel_rfl)) ?_
                    refine wd_takeP 30 rfl (by kernel_rfl) (fun _ _ _ h => h) (y_pure (v := .bool true) (by kernel_rfl) (by kernel_rfl)) ?_
                    refine wd_done (by kernel_rfl) ?_
                    refine then_normal ?_
                    refine wp_cond_true (by kernel_rfl) ?_
                    refine wp_seq ?_
                    refine wp_reg ?_
                    refine wl_end (by kernel_rfl) ?_
                    refine then_normal ?_
                    refine wp_ret ?_
                    refine block_ret ?_
                    refine then_ret ?_
                    refine then_ret ?_
                    refine block_ret ?_
                    refine then_ret ?_
                    exact rp_ret (v := .bool false) (by kernel_rfl) (by kernel_rfl) h
                  · intro hb; refine wd_lit 159 (e := (x17 != 0)) (b := false) (by kernel_rfl) hb ?_
                    replace h := h.2 (bne_false hb)
                    clear hb
                    refine wd_takeP 17 rfl (by kernel_rfl) (fun _ _ _ h => h) (y_pure (v := .pointer p1) (by kernel_rfl) (by kernel_rfl)) ?_
                    refine wd_one 18 rfl (by kernel_rfl) (by kernel_rfl) (op_callf (args := #[.pointer p1]) rfl (by kernel_rfl) (by kernel_rfl) Tryz.call16 (Ret.mono h ?_))
                    clear h; rintro r10 w19 ⟨x20, rfl, h⟩
                    obtain ⟨hK3, h⟩ := h
                    refine ⟨fun _ _ => hK3, ?_⟩
                    refine wd_takeP 19 rfl (by kernel_rfl) (fun _ _ _ h => h) (y_pure (v := .bool (x20 != 0)) (by kernel_rfl) (by kernel_rfl)) ?_
                    refine wd_takeP 20 rfl (by kernel_rfl) (fun _ _ _ h => h) (y_pure (v := .bool (x20 != 0)) (by kernel_rfl) (by kernel_rfl)) ?_
                    refine wd_takeP 21 rfl (by kernel_rfl) (fun _ _ _ h => h) (y_pure (v := .bool (x20 != 0)) (by kernel_rfl) (by kernel_rfl)) ?_
                    refine wd_split (e := (x20 != 0)) ?_ ?_
                    · intro hb; refine wd_lit 164 (e := (x20 != 0)) (b := true) (by kernel_rfl) hb ?_
                      replace h := h.1 (bne_iff_ne.1 hb)
                      clear hb
                      refine wd_takeP 22 rfl (by kernel_rfl) (fun _ _ _ h => h) (y_skip (by kernel_rfl)) ?_
                      refine wd_takeP 23 rfl (by kernel_rfl) (fun _ _ _ h => h) (y_skip (by kernel_rfl)) ?_
                      refine wd_take 24 rfl (by kernel_rfl) (fun _ _ _ h => h) (y_skip (by kernel_rfl)) hK3 ?_
                      refine wd_takeP 25 rfl (by kernel_rfl) (fun _ _ _ h => h) (y_skip (by kernel_rfl)) ?_
                      refine wd_takeP 26 rfl (by kernel_rfl) (fun _ _ _ h => h) (y_pure (v := .bool true) (by kernel_rfl) (by kernel_rfl)) ?_
                      refine wd_takeP 27 rfl (by kernel_rfl) (fun _ _ _ h => h) (y_pure (v := .bool true) (by kernel_rfl) (by kernel_rfl)) ?_
                      refine wd_takeP 28 rfl (by kernel_rfl) (fun _ _ _ h => h) (y_skip (by kernel_rfl)) ?_
                      refine wd_takeP 29 rfl (by kernel_rfl) (fun _ _ _ h => h) (y_skip (by kernel_rfl)) ?_
                      refine wd_takeP 30 rfl (by kernel_rfl) (fun _ _ _ h => h) (y_pure (v := .bool true) (by kernel_rfl) (by kernel_rfl)) ?_
                      refine wd_done (by kernel_rfl) ?_
                      refine then_normal ?_
                      refine wp_cond_true (by kernel_rfl) ?_
                      refine wp_seq ?_
                      refine wp_reg ?_
                      refine wl_end (by kernel_rfl) ?_
                      refine then_normal ?_
                      refine wp_ret ?_
                      refine block_ret ?_
                      refine then_ret ?_
                      refine then_ret ?_
                      refine block_ret ?_
                      refine then_ret ?_
                      exact rp_ret (v := .bool false) (by kernel_rfl) (by kernel_rfl) h
                    · intro hb; refine wd_lit 164 (e := (x20 != 0)) (b := false) (by kernel_rfl) hb ?_
                      replace h := h.2 (bne_false hb)
                      clear hb
                      refine wd_takeP 22 rfl (by kernel_rfl) (fun _ _ _ h => h) (y_pure (v := .pointer p1) (by kernel_rfl) (by kernel_rfl)) ?_
                      obtain ⟨x21, x22, d3, hl0, hx, h⟩ := h
                      refine wd_take 24 rfl (by kernel_rfl) (fun _ _ _ h => h) (y_loadN (cs := (([.int .i64 x21, .int .u32 x22] : List Value) ++ d3)) rfl (by kernel_rfl) (by kernel_rfl) Tryz.isAgg46 Tryz.sizeOf46 (by simp [hl0]) (fun _ hk => keep_range hk hx)) hK3 ?_
                      clear hx
                      refine wd_one 23 rfl (by kernel_rfl) (by kernel_rfl) (op_callf (args := #[.pointer p1]) rfl (by kernel_rfl) (by kernel_rfl) Tryz.call17 (Ret.mono h ?_))
                      clear h; rintro r11 w20 ⟨x23, x24, d4, rfl, hl0, h⟩
                      obtain ⟨hK4, h⟩ := h
                      refine ⟨fun _ _ => hK4, ?_⟩
                      obtain ⟨q5, h1, h⟩ := h
                      refine wd_takeP 25 rfl (by kernel_rfl) (fun _ _ _ h => h) (y_ne_any (x := .agg (([.int .i64 x23, .int .u32 x24] : List Value) ++ d4).toArray) (y := .agg (([.int .i64 x21, .int .u32 x22] : List Value) ++ d3).toArray) (b := q5) rfl (by kernel_rfl) (by kernel_rfl) (by kernel_rfl) h1) ?_
                      clear h1
                      refine wd_takeP 26 rfl (by kernel_rfl) (fun _ _ _ h => h) (y_pure (v := .bool (!q5)) (by kernel_rfl) (by kernel_rfl)) ?_
                      refine wd_takeP 27 rfl (by kernel_rfl) (fun _ _ _ h => h) (y_pure (v := .bool (!q5)) (by kernel_rfl) (by kernel_rfl)) ?_
                      refine wd_split (e := (!q5)) ?_ ?_
                      · intro hb; refine wd_lit 170 (e := (!q5)) (b := true) (by kernel_rfl) hb ?_
                        replace h := h.1 ((not_flip hb))
                        clear hb
                        refine wd_takeP 28 rfl (by kernel_rfl) (fun _ _ _ h => h) (y_skip (by kernel_rfl)) ?_
                        refine wd_takeP 29 rfl (by kernel_rfl) (fun _ _ _ h => h) (y_skip (by kernel_rfl)) ?_
                        refine wd_takeP 30 rfl (by kernel_rfl) (fun _ _ _ h => h) (y_pure (v := .bool true) (by kernel_rfl) (by kernel_rfl)) ?_
                        refine wd_done (by kernel_rfl) ?_
                        refine then_normal ?_
                        refine wp_cond_true (by kernel_rfl) ?_
                        refine wp_seq ?_
                        refine wp_reg ?_
                        refine wl_end (by kernel_rfl) ?_
                        refine then_normal ?_
                        refine wp_ret ?_
                        refine block_ret ?_
                        refine then_ret ?_
                        refine then_ret ?_
                        refine block_ret ?_
                        refine then_ret ?_
                        exact rp_ret (v := .bool false) (by kernel_rfl) (by kernel_rfl) h
                      · intro hb; refine wd_lit 170 (e := (!q5)) (b := false) (by kernel_rfl) hb ?_
                        replace h := h.2 ((not_flip hb))
                        clear hb
                        refine wd_takeP 28 rfl (by kernel_rfl) (fun _ _ _ h => h) (y_pure (v := .pointer p1) (by kernel_rfl) (by kernel_rfl)) ?_
                        refine wd_one 29 rfl (by kernel_rfl) (by kernel_rfl) (op_callf (args := #[.pointer p1]) rfl (by kernel_rfl) (by kernel_rfl) Tryz.call18 (Ret.mono h ?_))
                        clear h; rintro r12 w21 ⟨q6, rfl, h⟩
                        refine ⟨fun hh => absurd hh (by decide), ?_⟩
                        refine wd_takeP 30 rfl (by kernel_rfl) (fun _ _ _ h => h) (y_pure (v := .bool q6) (by kernel_rfl) (by kernel_rfl)) ?_
                        refine wd_done (by kernel_rfl) ?_
                        refine then_normal ?_
                        refine wp_cond_split (t := q6) (by kernel_rfl) (fun hb => ?_) (fun hb => ?_)
                        · replace h := h.1 (hb)
                          clear hb
                          refine wp_seq ?_
                          refine wp_reg ?_
                          refine wl_end (by kernel_rfl) ?_
                          refine then_normal ?_
                          refine wp_ret ?_
                          refine block_ret ?_
                          refine then_ret ?_
                          refine then_ret ?_
                          refine block_ret ?_
                          refine then_ret ?_
                          exact rp_ret (v := .bool false) (by kernel_rfl) (by kernel_rfl) h
                        · replace h := h.2 (hb)
                          clear hb
                          refine wp_skip ?_
                          refine block_normal ?_
                          refine then_normal ?_
                          refine wp_reg ?_
                          refine wl_end (by kernel_rfl) ?_
                          refine then_normal ?_
                          exact ⟨(A12, n12, c12, (IntKind.i64.wrap (x4 + 1))), enc_intro (by kernel_rfl), h.1, h.2⟩
            · clear hJ3
              obtain ⟨J4, hJ4, h⟩ := h
              refine wp_seq_join (σ := Bool) (fun s u4 => ⟨#[.int .i64 x1, .slice A1 n1 c1, undef, undef, (u1 4), .pointer p1, .int .i64 x2, .slice A9 n9 c9, .int .i64 x3, undef, .pointer (some ⟨b2, 0, none⟩), .slice A8 n8 c8, .slice A9 n9 c9, .int .i64 x9, .slice A10 n10 c10, .int .i64 x13, .bool s, (u1 17), (u1 18), (u1 19), undef, undef, .tuple #[.pointer p1, .int .i64 x2], .int .i64 x1, .tuple #[.pointer p1, .int .i64 x2], .pointer p1, .int .i64 x2, .tuple #[.slice A2 n2 c2, .int .i64 x3], .int .i64 x1, .tuple #[.slice A2 n2 c2, .int .i64 x3], .slice A2 n2 c2, .int .i64 x3, .int .i64 x2, .int .i64 x3, .bool (x2 != x3), (u1 35), (u1 36), (u1 37), (u1 38), (u1 39), (u1 40), (u1 41), (u1 42), (u1 43), (u1 44), (u1 45), (u1 46), (u1 47), (u1 48), (u1 49), .bool q2, undef, undef, undef, undef, undef, undef, undef, undef, undef, undef, undef, undef, undef, .slice A1 n1 c1, .slice (some ⟨b1, o1, none⟩) n3 c3, .int .i64 ((n3 : Nat) : Int), .int .i64 x4, .bool (decide (x4 < ((n3 : Nat) : Int))), .pointer (some ⟨b1, (o1 + (x4).toNat * 4), none⟩), .agg ([.int .u8 x5, .int .i64 x6, .slice A5 n5 c5, .int .u32 x7] : List Value).toArray, .pointer (some ⟨b2, 2, none⟩), .slice A6 n6 c6, .pointer (some ⟨b2, 0, none⟩), (u2 74), (u2 75), (u2 76), (u2 77), (u2 78), .tuple #[.slice A9 n9 c9, .int .i64 x9], .slice A4 n4 c4, .pointer (some ⟨b2, 1, none⟩), .int .i64 x8, .slice A8 n8 c8, .tuple #[.slice A9 n9 c9, .int .i64 x9], .slice A9 n9 c9, .int .i64 x9, .pointer p1, .pointer (some ⟨b2, 1, none⟩), .int .i64 x10, .slice A8 n8 c8, .int .i64 x11, .int .i64 x9, .bool (x11 != x9), .slice A9 n9 c9, .tuple #[.slice A10 n10 c10, .int .i64 x13], .pointer p1, .pointer (some ⟨b2, 1, none⟩), .int .i64 x12, .tuple #[.slice A10 n10 c10, .int .i64 x13], .slice A10 n10 c10, .int .i64 x13, .pointer (some ⟨b2, 1, none⟩), u4 103, u4 104, u4 105, u4 106, u4 107, u4 108, u4 109, u4 110, u4 111, (u1 112), (u1 113), (u1 114), (u1 115), (u1 116), (u1 117), (u1 118), (u1 119), (u1 120), (u1 121), (u1 122), (u1 123), (u1 124), (u1 125), (u1 126), (u1 127), (u1 128), (u1 129), (u1 130), (u1 131), (u1 132), (u1 133), (u1 134), (u1 135), (u1 136), (u1 137), (u1 138), (u1 139), (u1 140), (u1 141), (u1 142), (u1 143), (u1 144), (u1 145), (u1 146), (u1 147), (u1 148), (u1 149), (u1 150), (u1 151), (u1 152), (u1 153), (u1 154), (u1 155), (u1 156), (u1 157), (u1 158), (u1 159), (u1 160), (u1 161), (u1 162), (u1 163), (u1 164), (u1 165), (u1 166), (u1 167), (u1 168), (u1 169), (u1 170), (u1 171), (u1 172), (u1 173), (u1 174), undef, undef, undef, undef, undef, undef, undef, undef, undef, undef, undef, undef, undef, undef, undef, undef, undef, undef, undef, undef, undef], []⟩) (fun s w => J4 s w) ?_ ?_
              · clear h; rintro q8 u4 w22 hj
                have h := hJ4 q8 w22 hj; clear hj hJ4
                refine wp_seq ?_
                refine wp_reg ?_
                refine wl_pure 2 (by kernel_rfl) ?_
                refine wl_split (e := q8) ?_ ?_
                · intro hb; refine wl_lit 113 (e := q8) (b := true) (by kernel_rfl) hb ?_
                  replace h := h.1 (hb)
                  clear hb
                  refine wl_pure 3 (by kernel_rfl) ?_
                  refine wl_split (e := (x13 != 0)) ?_ ?_
                  · intro hb; refine wl_lit 116 (e := (x13 != 0)) (b := true) (by kernel_rfl) hb ?_
                    replace h := h.1 (bne_iff_ne.1 hb)
                    clear hb
                    refine wl_end (by kernel_rfl) ?_
                    refine then_normal ?_
                    refine wp_cond_true (by kernel_rfl) ?_
                    refine wp_seq ?_
                    refine wp_reg ?_
                    refine wl_end (by kernel_rfl) ?_
                    refine then_normal ?_
                    refine wp_ret ?_
                    refine then_ret ?_
                    refine block_ret ?_
                    refine then_ret ?_
                    refine then_ret ?_
                    refine block_ret ?_
                    refine then_ret ?_
                    exact rp_ret (v := .bool false) (by kernel_rfl) (by kernel_rfl) h
                  · intro hb; refine wl_lit 116 (e := (x13 != 0)) (b := false) (by kernel_rfl) hb ?_
                    replace h := h.2 (bne_false hb)
                    clear hb
                    refine wl_pure 3 (by kernel_rfl) ?_
                    obtain ⟨x25, hx, h⟩ := h
                    refine wl_op (op_load (v := .int .i64 x25) rfl (by kernel_rfl) (by kernel_rfl) Tryz.isAgg3 hx ?_)
                    clear hx
                    obtain ⟨b4, o2, rfl, h⟩ := h
                    obtain ⟨h1, h2, h⟩ := h
                    refine wl_op (op_index (k := .i64) (j := x25) (b := b4) (off := o2) (n := n9) (c := c9) rfl (by kernel_rfl) (by kernel_rfl) (by kernel_rfl) Tryz.underlying27 Tryz.sizeOf33 h1 h2 ?_)
                    clear h1 h2
                    obtain ⟨A15, n15, c15, hx, h⟩ := h
                    refine wl_op (op_load (v := .slice A15 n15 c15) rfl (by kernel_rfl) (by kernel_rfl) Tryz.isAgg33 hx ?_)
                    clear hx
                    refine wl_op (op_callf (args := #[.slice A10 n10 c10, .slice A15 n15 c15]) rfl (by kernel_rfl) (by kernel_rfl) Tryz.call13 (Ret.mono h ?_))
                    clear h; rintro r13 w23 ⟨q9, rfl, h⟩
                    refine wl_pure 4 (by kernel_rfl) ?_
                    refine wl_split (e := (!q9)) ?_ ?_
                    · intro hb; refine wl_lit 127 (e := (!q9)) (b := true) (by kernel_rfl) hb ?_
                      replace h := h.1 ((not_flip hb))
                      clear hb
                      refine wl_end (by kernel_rfl) ?_
                      refine then_normal ?_
                      refine wp_cond_true (by kernel_rfl) ?_
                      refine wp_seq ?_
                      refine wp_reg ?_
                      refine wl_end (by kernel_rfl) ?_
                      refine then_normal ?_
                      refine wp_ret ?_
                      refine then_ret ?_
                      refine block_ret ?_
                      refine then_ret ?_
                      refine then_ret ?_
                      refine block_ret ?_
                      refine then_ret ?_
                      exact rp_ret (v := .bool false) (by kernel_rfl) (by kernel_rfl) h
                    · intro hb; refine wl_lit 127 (e := (!q9)) (b := false) (by kernel_rfl) hb ?_
                      replace h := h.2 ((not_flip hb))
                      clear hb
                      refine wl_pure 3 (by kernel_rfl) ?_
                      refine wl_split (e := (!q8)) ?_ ?_
                      · intro hb; refine wl_lit 130 (e := (!q8)) (b := true) (by kernel_rfl) hb ?_
                        replace h := h.1 ((not_flip hb))
                        clear hb
                        refine wl_end (by kernel_rfl) ?_
                        refine then_normal ?_
                        refine wp_cond_split (t := (x13 != 1)) (by kernel_rfl) (fun hb => ?_) (fun hb => ?_)
                        · replace h := h.1 (bne_iff_ne.1 hb)
                          clear hb
                          refine wp_seq ?_
                          refine wp_reg ?_
                          refine wl_end (by kernel_rfl) ?_
                          refine then_normal ?_
                          refine wp_ret ?_
                          refine then_ret ?_
                          refine block_ret ?_
                          refine then_ret ?_
                          refine then_ret ?_
                          refine block_ret ?_
                          refine then_ret ?_
                          exact rp_ret (v := .bool false) (by kernel_rfl) (by kernel_rfl) h
                        · replace h := h.2 (bne_false hb)
                          clear hb
                          refine wp_skip ?_
                          refine then_normal ?_
                          exact ⟨((some ⟨b4, o2, none⟩), n9, c9), h, enc_intro (by kernel_rfl)⟩
                      · intro hb; refine wl_lit 130 (e := (!q8)) (b := false) (by kernel_rfl) hb ?_
                        replace h := h.2 ((not_flip hb))
                        clear hb
                        refine wl_end (by kernel_rfl) ?_
                        refine then_normal ?_
                        refine wp_cond_false (by kernel_rfl) ?_
                        refine wp_skip ?_
                        refine then_normal ?_
                        exact ⟨((some ⟨b4, o2, none⟩), n9, c9), h, enc_intro (by kernel_rfl)⟩
                · intro hb; refine wl_lit 113 (e := q8) (b := false) (by kernel_rfl) hb ?_
                  replace h := h.2 (hb)
                  clear hb
                  refine wl_pure 17 (by kernel_rfl) ?_
                  refine wl_split (e := (!q8)) ?_ ?_
                  · intro hb; refine wl_lit 130 (e := (!q8)) (b := true) (by kernel_rfl) hb ?_
                    replace h := h.1 ((not_flip hb))
                    clear hb
                    refine wl_end (by kernel_rfl) ?_
                    refine then_normal ?_
                    refine wp_cond_split (t := (x13 != 1)) (by kernel_rfl) (fun hb => ?_) (fun hb => ?_)
                    · replace h := h.1 (bne_iff_ne.1 hb)
                      clear hb
                      refine wp_seq ?_
                      refine wp_reg ?_
                      refine wl_end (by kernel_rfl) ?_
                      refine then_normal ?_
                      refine wp_ret ?_
                      refine then_ret ?_
                      refine block_ret ?_
                      refine then_ret ?_
                      refine then_ret ?_
                      refine block_ret ?_
                      refine then_ret ?_
                      exact rp_ret (v := .bool false) (by kernel_rfl) (by kernel_rfl) h
                    · replace h := h.2 (bne_false hb)
                      clear hb
                      refine wp_skip ?_
                      refine then_normal ?_
                      exact ⟨(A9, n9, c9), h, enc_intro (by kernel_rfl)⟩
                  · intro hb; refine wl_lit 130 (e := (!q8)) (b := false) (by kernel_rfl) hb ?_
                    replace h := h.2 ((not_flip hb))
                    clear hb
                    refine wl_end (by kernel_rfl) ?_
                    refine then_normal ?_
                    refine wp_cond_false (by kernel_rfl) ?_
                    refine wp_skip ?_
                    refine then_normal ?_
                    exact ⟨(A9, n9, c9), h, enc_intro (by kernel_rfl)⟩
              · clear hJ4
                refine wp_reg ?_
                refine wl_pure 1 (by kernel_rfl) ?_
                obtain ⟨x26, hx, h⟩ := h
                refine wl_op (op_load (v := .int .i64 x26) rfl (by kernel_rfl) (by kernel_rfl) Tryz.isAgg3 hx ?_)
                clear hx
                refine wl_pure 2 (by kernel_rfl) ?_
                refine wl_split (e := (decide (x26 ≥ 0))) ?_ ?_
                · intro hb; refine wl_lit 105 (e := (decide (x26 ≥ 0))) (b := true) (by kernel_rfl) hb ?_
                  replace h := h.1 (of_decide_eq_true hb)
                  clear hb
                  refine wl_pure 1 (by kernel_rfl) ?_
                  obtain ⟨x27, hx, h⟩ := h
                  refine wl_op (op_load (v := .int .i64 x27) rfl (by kernel_rfl) (by kernel_rfl) Tryz.isAgg3 hx ?_)
                  clear hx
                  refine wl_end (by kernel_rfl) ?_
                  refine then_normal ?_
                  exact ⟨((decide (x27 < ((n9 : Nat) : Int)))), h, enc_intro (by kernel_rfl)⟩
                · intro hb; refine wl_lit 105 (e := (decide (x26 ≥ 0))) (b := false) (by kernel_rfl) hb ?_
                  replace h := h.2 (of_decide_eq_false hb)
                  clear hb
                  refine wl_end (by kernel_rfl) ?_
                  refine then_normal ?_
                  exact ⟨(false), h, enc_intro (by kernel_rfl)⟩
        · clear hJ2
          refine wp_seq ?_
          refine wp_reg ?_
          refine wl_pure 1 (by kernel_rfl) ?_
          obtain ⟨x28, hx, h⟩ := h
          refine wl_op (op_load (v := .int .u8 x28) rfl (by kernel_rfl) (by kernel_rfl) Tryz.isAgg5 hx ?_)
          clear hx
          refine wl_end (by kernel_rfl) ?_
          refine then_normal ?_
          refine wp_cond_split (t := ((x28.tmod 2) == 0)) (by kernel_rfl) (fun hb => ?_) (fun hb => ?_)
          · replace h := h.1 (eq_of_beq hb)
            clear hb
            refine wp_reg ?_
            refine wl_pure 1 (by kernel_rfl) ?_
            refine wl_op (op_callf (args := #[.slice A6 n6 c6]) rfl (by kernel_rfl) (by kernel_rfl) Tryz.call9 (Ret.mono h ?_))
            clear h; rintro r14 w24 ⟨A16, n16, c16, rfl, h⟩
            refine wl_end (by kernel_rfl) ?_
            refine then_normal ?_
            exact ⟨(A16, n16, c16), h, enc_intro (by kernel_rfl)⟩
          · replace h := h.2 (ne_of_beq_false hb)
            clear hb
            refine wp_skip ?_
            refine then_normal ?_
            exact ⟨(A6, n6, c6), h, enc_intro (by kernel_rfl)⟩
      · replace h := h.2 (of_decide_eq_false hb)
        clear hb
        refine wp_exit ?_
        refine then_exit ?_
        refine then_exit ?_
        refine block_exit_eq ?_
        refine then_normal ?_
        refine wp_seq ?_
        refine wp_reg ?_
        refine wl_pure 1 (by kernel_rfl) ?_
        refine wl_op (op_callf (args := #[.pointer p1]) rfl (by kernel_rfl) (by kernel_rfl) Tryz.call19 (Ret.mono h ?_))
        clear h; rintro r15 w25 ⟨A17, n17, c17, x29, rfl, h⟩
        refine wl_end (by kernel_rfl) ?_
        refine then_normal ?_
        refine wp_seq ?_
        refine wp_reg ?_
        refine wl_pure 3 (by kernel_rfl) ?_
        refine wl_split (e := (x29 == 0)) ?_ ?_
        · intro hb; refine wl_lit 182 (e := (x29 == 0)) (b := true) (by kernel_rfl) hb ?_
          replace h := h.1 (eq_of_beq hb)
          clear hb
          refine wl_pure 2 (by kernel_rfl) ?_
          refine wl_op (op_callf (args := #[.slice A17 n17 c17, .slice A4 n4 c4]) rfl (by kernel_rfl) (by kernel_rfl) Tryz.call20 (Ret.mono h ?_))
          clear h; rintro r16 w26 ⟨q10, rfl, h⟩
          refine wl_pure 2 (by kernel_rfl) ?_
          refine wl_split (e := q10) ?_ ?_
          · intro hb; refine wl_lit 187 (e := q10) (b := true) (by kernel_rfl) hb ?_
            replace h := h.1 (hb)
            clear hb
            refine wl_pure 1 (by kernel_rfl) ?_
            refine wl_op (op_callf (args := #[.pointer p1]) rfl (by kernel_rfl) (by kernel_rfl) Tryz.call21 (Ret.mono h ?_))
            clear h; rintro r17 w27 ⟨x30, rfl, h⟩
            refine wl_pure 4 (by kernel_rfl) ?_
            refine wl_split (e := (x30 == x1)) ?_ ?_
            · intro hb; refine wl_lit 193 (e := (x30 == x1)) (b := true) (by kernel_rfl) hb ?_
              replace h := h.1 (eq_of_beq hb)
              clear hb
              refine wl_op (op_callf (args := #[]) rfl (by kernel_rfl) (by kernel_rfl) Tryz.call7 (Ret.mono h ?_))
              clear h; rintro r18 w28 ⟨q11, rfl, h⟩
              refine wl_end (by kernel_rfl) ?_
              refine then_normal ?_
              refine wp_ret ?_
              exact rp_ret (v := .bool q11) (by kernel_rfl) (by kernel_rfl) h
            · intro hb; refine wl_lit 193 (e := (x30 == x1)) (b := false) (by kernel_rfl) hb ?_
              replace h := h.2 (ne_of_beq_false hb)
              clear hb
              refine wl_end (by kernel_rfl) ?_
              refine then_normal ?_
              refine wp_ret ?_
              exact rp_ret (v := .bool false) (by kernel_rfl) (by kernel_rfl) h
          · intro hb; refine wl_lit 187 (e := q10) (b := false) (by kernel_rfl) hb ?_
            replace h := h.2 (hb)
            clear hb
            refine wl_end (by kernel_rfl) ?_
            refine then_normal ?_
            refine wp_ret ?_
            exact rp_ret (v := .bool false) (by kernel_rfl) (by kernel_rfl) h
        · intro hb; refine wl_lit 182 (e := (x29 == 0)) (b := false) (by kernel_rfl) hb ?_
          replace h := h.2 (ne_of_beq_false hb)
          clear hb
          refine wl_end (by kernel_rfl) ?_
          refine then_normal ?_
          refine wp_ret ?_
          exact rp_ret (v := .bool false) (by kernel_rfl) (by kernel_rfl) h
  · clear hJ1
    refine wp_reg ?_
    refine wl_pure 4 (by kernel_rfl) ?_
    refine wl_split (e := (x2 != x3)) ?_ ?_
    · intro hb; refine wl_lit 35 (e := (x2 != x3)) (b := true) (by kernel_rfl) hb ?_
      replace h := h.1 (bne_iff_ne.1 hb)
      clear hb
      refine wl_end (by kernel_rfl) ?_
      refine then_normal ?_
      exact ⟨(true), h, enc_intro (by kernel_rfl)⟩
    · intro hb; refine wl_lit 35 (e := (x2 != x3)) (b := false) (by kernel_rfl) hb ?_
      replace h := h.2 (bne_false hb)
      clear hb
      refine wl_pure 4 (by kernel_rfl) ?_
      refine wl_split (e := (x3 != 0)) ?_ ?_
      · intro hb; refine wl_lit 39 (e := (x3 != 0)) (b := true) (by kernel_rfl) hb ?_
        replace h := h.1 (bne_iff_ne.1 hb)
        clear hb
        refine wl_end (by kernel_rfl) ?_
        refine then_normal ?_
        exact ⟨(true), h, enc_intro (by kernel_rfl)⟩
      · intro hb; refine wl_lit 39 (e := (x3 != 0)) (b := false) (by kernel_rfl) hb ?_
        replace h := h.2 (bne_false hb)
        clear hb
        refine wl_pure 1 (by kernel_rfl) ?_
        refine wl_op (op_eq_ptr_nil (p := p1) rfl (by kernel_rfl) (by kernel_rfl) (by kernel_rfl) Tryz.underlying23 ?_)
        refine wl_pure 2 (by kernel_rfl) ?_
        refine wl_split (e := p1.isNone) ?_ ?_
        · intro hb; refine wl_lit 43 (e := p1.isNone) (b := true) (by kernel_rfl) hb ?_
          replace h := h.1 (Option.isNone_iff_eq_none.1 hb)
          clear hb
          refine wl_end (by kernel_rfl) ?_
          refine then_normal ?_
          exact ⟨(true), h, enc_intro (by kernel_rfl)⟩
        · intro hb; refine wl_lit 43 (e := p1.isNone) (b := false) (by kernel_rfl) hb ?_
          replace h := h.2 (ne_none_of hb)
          clear hb
          refine wl_pure 4 (by kernel_rfl) ?_
          refine wl_split (e := (decide (x1 > 20))) ?_ ?_
          · intro hb; refine wl_lit 47 (e := (decide (x1 > 20))) (b := true) (by kernel_rfl) hb ?_
            replace h := h.1 (of_decide_eq_true hb)
            clear hb
            refine wl_end (by kernel_rfl) ?_
            refine then_normal ?_
            exact ⟨(true), h, enc_intro (by kernel_rfl)⟩
          · intro hb; refine wl_lit 47 (e := (decide (x1 > 20))) (b := false) (by kernel_rfl) hb ?_
            replace h := h.2 (of_decide_eq_false hb)
            clear hb
            refine wl_pure 1 (by kernel_rfl) ?_
            refine wl_op (op_callf (args := #[.slice A1 n1 c1]) rfl (by kernel_rfl) (by kernel_rfl) Tryz.call6 (Ret.mono h ?_))
            clear h; rintro r19 w29 ⟨q12, rfl, h⟩
            refine wl_end (by kernel_rfl) ?_
            refine then_normal ?_
            exact ⟨(q12), h, enc_intro (by kernel_rfl)⟩

end Go.Proofs.YtccfdbldmnkgcaaGreat
