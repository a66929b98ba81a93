/-
 For each function: what it asks of the world that it is called in (S_n), and that this suffices (L_n). Written by a program of this proof (gen.py) off the function's own print.
-/
import Derived.Test.YtpkfdhlkknanmaaGreatDrx
import Derived.Test.YtpkfdhlkknanmaaGreatProg
set_option linter.all false
set_option maxRecDepth 4000
namespace Go.Proofs.YtpkfdhlkknanmaaGreat
open Go Go.RowKit Go.Proofs
def S_4 (x1 : Int) (w : World) (Q : Value → World → Prop) : Prop :=
 ∀ b1 w1, b1 = w.heap.size → w1 = w.alloc (.cells #[.slice none 0 0] 32) →
 (x1 < 1 →
 w1.there b1 0 1 ∧
 ∀ w2, w2 = w1.setCells b1 0 ([.slice none 0 0] : List Value) →
 ∃ A1 n1 c1, w2.rangeAt b1 0 ([.slice A1 n1 c1] : List Value) ∧ Q (.tuple #[.agg #[.slice A1 n1 c1], .int .i64 1]) w2) ∧
 (¬ x1 < 1 →
 (x1 > 216 →
 w1.there b1 0 1 ∧
 ∀ w3, w3 = w1.setCells b1 0 ([.slice none 0 0] : List Value) →
 ∃ A2 n2 c2, w3.rangeAt b1 0 ([.slice A2 n2 c2] : List Value) ∧ Q (.tuple #[.agg #[.slice A2 n2 c2], .int .i64 1]) w3) ∧
 (¬ x1 > 216 →
 ∀ b2 w4, b2 = w1.heap.size → w4 = w1.alloc (.cells #[.int .i64 0, .int .i64 x1] 3) →
 ∃ (I1 : (Option Addr) → Nat → Nat → Int → World → Prop) (μ1 : (Option Addr) → Nat → Nat → Int → World → Nat), I1 (some ⟨b2, 0, none⟩) 2 2 x1 w4 ∧
 ∀ A3 n3 c3 x2 w5, I1 A3 n3 c3 x2 w5 →
 ∃ J1 : World → Prop, (∀  (w6 : World), J1 w6 →
 ∀ w7, w7 = w6.drew →
 (0 : Int) ≤ 0 ∧ (0 : Int) ≤ (n3 : Int) ∧ ((n3 : Int) : Int) ≤ (n3 : Int) ∧ ((n3 : Int) : Int) ≤ (c3 : Int) ∧
 ∀ A4, A4 = cutA A3 0 n3 1 →
 ∃ b3 o1, A3 = some ⟨b3, o1, none⟩ ∧ (0 : Int) ≤ (IntKind.i64.wrap ((n3 : Int) - 1)) ∧ (IntKind.i64.wrap ((n3 : Int) - 1)) < (n3 : Int) ∧
 ∃ x3, w6.cell? ⟨b3, (o1 + ((IntKind.i64.wrap ((n3 : Int) - 1))).toNat * 1), none⟩ = some (.int .i64 x3) ∧
 ∀ b4 w8, b4 = w7.heap.size → w8 = w7.alloc (.cells #[.int .i64 (IntKind.i64.wrap (x3 + (IntKind.i64.wrap ((IntKind.i64.wrap ((IntKind.i64.wrap (x2 + 6)) - 1)).tdiv 6))))] 3) →
 ∃ l1 l2 : List Value, ((n3 - 0) + 1) * 8 ≤ 140737488355328 ∧ l1.length = (n3 - 0) * 1 ∧ RdS w8 A4 l1 ∧ l2.length = 1 * 1 ∧ RdS w8 (some ⟨b4, 0, none⟩) l2 ∧ One l2 ∧ ((n3 - 0) + 1 ≤ (n3 - 0) → Room w8 A4 ((n3 - 0) * 1) (1 * 1)) ∧
 ∀ A5 c4 w9, Appended w8 3 1 #[.int .i64 0] A4 (n3 - 0) (n3 - 0) 1 l1 l2 A5 c4 w9 →
 I1 A5 ((n3 - 0) + 1) c4 (IntKind.i64.wrap ((IntKind.i64.wrap ((IntKind.i64.wrap (x2 + 6)) - 1)).tdiv 6)) w9 ∧ μ1 A5 ((n3 - 0) + 1) c4 (IntKind.i64.wrap ((IntKind.i64.wrap ((IntKind.i64.wrap (x2 + 6)) - 1)).tdiv 6)) w9 < μ1 A3 n3 c3 x2 w5) ∧
 (x2 > 1 →
 J1 w5) ∧
 (¬ x2 > 1 →
 ((n3 : Int) = 2 →
 J1 w5) ∧
 ((n3 : Int) ≠ 2 →
 w5.there b1 0 1 ∧
 ∀ w10, w10 = w5.setCells b1 0 ([.slice A3 n3 c3] : List Value) →
 ∃ A6 n4 c5, w10.rangeAt b1 0 ([.slice A6 n4 c5] : List Value) ∧ Q (.tuple #[.agg #[.slice A6 n4 c5], .int .i64 0]) w10))))
theorem L_4 (x1 : Int) (w : World) (Q : Value → World → Prop) (h : S_4 x1 w Q) : Ret Tryz.prog 4 #[.int .i64 x1] w Q := by
 unfold S_4 at h
 refine ret_of_wp Tryz.func4 rfl (wp_seq (qx (qq (qac rfl Tryz.zeroValue32 ?_))))
 intro b1 w1 e1 e2; replace h := h b1 w1 e1 e2
 refine qbr (qz (wp_seq (wp_seq (qx (qbt 3 (wl_split (e := (decide (x1 < 1))) ?_ ?_))))))
 ·intro hb; refine qbs 9 (e := (decide (x1 < 1))) (b := true) hb ?_
  replace h := h.1 (of_decide_eq_true hb)
  refine qbr (qz (wp_cond_true (by kernel_rfl) (wp_seq (qx (qbt 1 ?_)))))
  obtain ⟨hw, h⟩ := h
  refine qq (qbd (cs := ([.slice none 0 0] : List Value)) rfl Tryz.sizeOf32 rfl (qab) hw ?_)
  intro w2 e1; replace h := h w2 e1
  refine qbr (qz (wp_ret (qs ?_)))
  obtain ⟨A1, n1, c1, hx0, h⟩ := h
  exact qbi (vs := [.agg #[.slice A1 n1 c1], .int .i64 1]) (v := .tuple #[.agg #[.slice A1 n1 c1], .int .i64 1]) Tryz.results4 ⟨⟨b1, 0, by kernel_rfl, run_loadN Tryz.isAgg32 Tryz.sizeOf32 (by simp []) hx0⟩, qbf, trivial⟩ h
 ·intro hb; refine qbs 9 (e := (decide (x1 < 1))) (b := false) hb ?_
  replace h := h.2 (of_decide_eq_false hb)
  refine qbr (qz (wp_cond_split (t := (decide (x1 > 216))) (by kernel_rfl) (fun hb => ?_) (fun hb => ?_)))
  ·replace h := h.1 (of_decide_eq_true hb)
   refine wp_seq (qx (qbt 1 ?_))
   obtain ⟨hw, h⟩ := h
   refine qq (qbd (cs := ([.slice none 0 0] : List Value)) rfl Tryz.sizeOf32 rfl (qab) hw ?_)
   intro w3 e1; replace h := h w3 e1
   refine qbr (qz (wp_ret (qs ?_)))
   obtain ⟨A2, n2, c2, hx0, h⟩ := h
   exact qbi (vs := [.agg #[.slice A2 n2 c2], .int .i64 1]) (v := .tuple #[.agg #[.slice A2 n2 c2], .int .i64 1]) Tryz.results4 ⟨⟨b1, 0, by kernel_rfl, run_loadN Tryz.isAgg32 Tryz.sizeOf32 (by simp []) hx0⟩, qbf, trivial⟩ h
  ·replace h := h.2 (of_decide_eq_false hb)
   refine wp_skip (qz (wp_seq (qx (qbt 1 (qq (qag (cs := ([.int .i64 0, .int .i64 x1] : List Value)) rfl Tryz.underlying30 Tryz.sizeOf3 Tryz.zeroValue3 (by kernel_rfl) (by decide) (by decide) ?_))))))
   intro b2 w4 e1 e2; replace h := h b2 w4 e1 e2
   refine qbr (qz (wp_seq (wp_seq (qx (qbr (qz (wp_block ?_)))))))
   obtain ⟨I1, μ1, hI1, hB1⟩ := h
   refine wp_loop_st (σ := (Option Addr) × Nat × Nat × Int) (fun s a => ∃ u1 : Nat → Value, a = ⟨#[.int .i64 x1, undef, .pointer (some ⟨b1, 0, none⟩), .int .i64 0, .slice s.1 s.2.1 s.2.2.1, .int .i64 s.2.2.2, u1 6, .int .i64 x1, .bool (decide (x1 < 1)), .bool false, .int .i64 x1, .bool (decide (x1 > 216)), .bool (decide (x1 > 216)), undef, .int .i64 x1, .slice (some ⟨b2, 0, none⟩) 2 2, .int .i64 x1, u1 17, u1 18, u1 19, u1 20, u1 21, u1 22, u1 23, u1 24, u1 25, u1 26, u1 27, u1 28, u1 29, u1 30, u1 31, u1 32, u1 33, u1 34, u1 35, u1 36, u1 37, u1 38, u1 39, u1 40, u1 41, u1 42, undef, undef], []⟩) (fun s w => I1 s.1 s.2.1 s.2.2.1 s.2.2.2 w) (fun s w => μ1 s.1 s.2.1 s.2.2.1 s.2.2.2 w) ((some ⟨b2, 0, none⟩), 2, 2, x1) (qaa) hI1 ?_
   rintro ⟨A3, n3, c3, x2⟩ a w5 ⟨u1, rfl⟩ hI1
   have h := hB1 A3 n3 c3 x2 w5 hI1
   obtain ⟨J1, hJ1, h⟩ := h
   refine wp_seq_join (σ := Unit) (fun s vj1 => ⟨#[.int .i64 x1, undef, .pointer (some ⟨b1, 0, none⟩), .int .i64 0, .slice A3 n3 c3, .int .i64 x2, u1 6, .int .i64 x1, .bool (decide (x1 < 1)), .bool false, .int .i64 x1, .bool (decide (x1 > 216)), .bool (decide (x1 > 216)), undef, .int .i64 x1, .slice (some ⟨b2, 0, none⟩) 2 2, .int .i64 x1, .int .i64 x2, .bool (decide (x2 > 1)), vj1 19, vj1 20, vj1 21, vj1 22, vj1 23, u1 24, u1 25, u1 26, u1 27, u1 28, u1 29, u1 30, u1 31, u1 32, u1 33, u1 34, u1 35, u1 36, u1 37, u1 38, u1 39, u1 40, u1 41, u1 42, undef, undef], []⟩) (fun s w => J1 w) ?_ ?_
   ·clear h; rintro _ vj1 w6 hj
    have h := hJ1 w6 hj
    refine wp_block (wp_seq (qx (qbr (qz (wp_seq (qx (qbr (qz (qbj (Keep w6) [11, 12] ?_)))))))))
    intro w7 e1; have hK1 := keep_drew e1; replace h := h w7 e1
    refine qbo 0 rfl (qbz (v := .slice A3 n3 c3)) (qbo 1 rfl (qbz (v := .int .i64 (n3 : Int))) (qbo 2 rfl (qbz (v := .int .i64 (n3 : Int))) ?_))
    obtain ⟨h1, h2, h3, h4, h⟩ := h
    obtain ⟨A4, e1⟩ : ∃ A : Option Addr, A = cutA A3 (0 : Int).toNat ((n3 : Int) : Int).toNat 1 := ⟨_, rfl⟩
    refine qbo 3 rfl (qcc e1 (A := A3) (n := n3) (c := c3) (lo := 0) (hi := (n3 : Int)) (mx := (n3 : Int)) rfl (.inl ⟨rfl, rfl⟩) (.inr ⟨_, .i64, rfl, by kernel_rfl⟩) (.inr ⟨_, .i64, rfl, by kernel_rfl⟩) (by simp) Tryz.underlying30 Tryz.sizeOf3 h1 h2 h3 h4) ?_
    replace h := h A4 e1
    refine qbo 4 rfl (qbz (v := .slice A3 n3 c3)) (qbo 5 rfl (qbz (v := .int .i64 (n3 : Int))) (qbo 6 rfl (qbz (v := .int .i64 (IntKind.i64.wrap ((n3 : Int) - 1)))) ?_))
    obtain ⟨b3, o1, rfl, h⟩ := h
    obtain ⟨h1, h2, h⟩ := h
    refine qbo 7 rfl (qbu (k := .i64) (j := (IntKind.i64.wrap ((n3 : Int) - 1))) (b := b3) (off := o1) (n := n3) (c := c3) rfl Tryz.underlying30 Tryz.sizeOf3 h1 h2) ?_
    obtain ⟨x3, hx, h⟩ := h
    refine qbn 8 rfl (qbw (v := .int .i64 x3) rfl Tryz.isAgg3 (fun _ hk => keep_cell hk hx)) hK1 ?_
    refine qbo 9 rfl (qbz (v := .int .i64 (IntKind.i64.wrap ((IntKind.i64.wrap ((IntKind.i64.wrap (x2 + 6)) - 1)).tdiv 6)))) (qbo 10 rfl (qbz (v := .int .i64 (IntKind.i64.wrap (x3 + (IntKind.i64.wrap ((IntKind.i64.wrap ((IntKind.i64.wrap (x2 + 6)) - 1)).tdiv 6)))))) (qbm 11 rfl (qag (cs := ([.int .i64 (IntKind.i64.wrap (x3 + (IntKind.i64.wrap ((IntKind.i64.wrap ((IntKind.i64.wrap (x2 + 6)) - 1)).tdiv 6))))] : List Value)) rfl Tryz.underlying30 Tryz.sizeOf3 Tryz.zeroValue3 (by kernel_rfl) (by decide) (by decide) ?_)))
    intro b4 w8 e1 e2; replace h := h b4 w8 e1 e2
    refine ⟨fun hh => absurd hh (by decide), ?_⟩
    obtain ⟨l1, l2, h1, h2, h3, h4, h5, h6, h7, h⟩ := h
    refine qbm 12 rfl (qad (A := A4) (n := (n3 - 0)) (c := (n3 - 0)) (B := (some ⟨b4, 0, none⟩)) (m := 1) (c2 := 1) (olds := l1) (news := l2) rfl Tryz.underlying30 Tryz.underlying30 Tryz.typeInfo3 rfl (by decide) h1 h2 h3 h4 h5 h6 h7 ?_)
    intro A5 c4 w9 e1; replace h := h A5 c4 w9 e1
    refine ⟨fun hh => absurd hh (by decide), ?_⟩
    refine qbo 13 rfl (qbz (v := .slice A5 ((n3 - 0) + 1) c4)) (qbk (qu (qz ?_)))
    exact ⟨(A5, ((n3 - 0) + 1), c4, (IntKind.i64.wrap ((IntKind.i64.wrap ((IntKind.i64.wrap (x2 + 6)) - 1)).tdiv 6))), qaa, h.1, h.2⟩
   ·clear hJ1
    refine wp_seq (qx (qbt 3 (wl_split (e := (decide (x2 > 1))) ?_ ?_)))
    ·intro hb; refine qbs 19 (e := (decide (x2 > 1))) (b := true) hb ?_
     replace h := h.1 (of_decide_eq_true hb)
     refine qbr (qz (wp_cond_true (by kernel_rfl) (wp_skip (qz ?_))))
     exact ⟨(), h, qaa⟩
    ·intro hb; refine qbs 19 (e := (decide (x2 > 1))) (b := false) hb ?_
     replace h := h.2 (of_decide_eq_false hb)
     refine qbr (qz (wp_cond_split (t := ((n3 : Int) == 2)) (by kernel_rfl) (fun hb => ?_) (fun hb => ?_)))
     ·replace h := h.1 (eq_of_beq hb)
      refine wp_skip (qz ?_)
      exact ⟨(), h, qaa⟩
     ·replace h := h.2 (ne_of_beq_false hb)
      refine wp_exit (qr (qr (block_exit_eq (qz (wp_seq (qx (qbt 2 ?_)))))))
      obtain ⟨hw, h⟩ := h
      refine qq (qbd (cs := ([.slice A3 n3 c3] : List Value)) rfl Tryz.sizeOf32 rfl (qab) hw ?_)
      intro w10 e1; replace h := h w10 e1
      refine qbr (qz (wp_ret ?_))
      obtain ⟨A6, n4, c5, hx0, h⟩ := h
      exact qbi (vs := [.agg #[.slice A6 n4 c5], .int .i64 0]) (v := .tuple #[.agg #[.slice A6 n4 c5], .int .i64 0]) Tryz.results4 ⟨⟨b1, 0, by kernel_rfl, run_loadN Tryz.isAgg32 Tryz.sizeOf32 (by simp []) hx0⟩, qbf, trivial⟩ h
def S_5 (x1 : Int) (w : World) (Q : Value → World → Prop) : Prop :=
 ∀ b1 w1, b1 = w.heap.size → w1 = w.alloc (.cells #[.int .i64 0, .slice none 0 0, .slice none 0 0] 37) →
 (x1 < 1 →
 w1.there b1 0 3 ∧
 ∀ w2, w2 = w1.setCells b1 0 ([.int .i64 0, .slice none 0 0, .slice none 0 0] : List Value) →
 ∃ x2 A1 n1 c1 A2 n2 c2, w2.rangeAt b1 0 ([.int .i64 x2, .slice A1 n1 c1, .slice A2 n2 c2] : List Value) ∧ Q (.tuple #[.agg #[.int .i64 x2, .slice A1 n1 c1, .slice A2 n2 c2], .int .i64 1]) w2) ∧
 (¬ x1 < 1 →
 (x1 > 216 →
 w1.there b1 0 3 ∧
 ∀ w3, w3 = w1.setCells b1 0 ([.int .i64 0, .slice none 0 0, .slice none 0 0] : List Value) →
 ∃ x3 A3 n3 c3 A4 n4 c4, w3.rangeAt b1 0 ([.int .i64 x3, .slice A3 n3 c3, .slice A4 n4 c4] : List Value) ∧ Q (.tuple #[.agg #[.int .i64 x3, .slice A3 n3 c3, .slice A4 n4 c4], .int .i64 1]) w3) ∧
 (¬ x1 > 216 →
 ∀ b2 w4, b2 = w1.heap.size → w4 = w1.alloc (.cells #[.int .i64 0, .slice none 0 0, .slice none 0 0] 37) →
 w4.there b2 0 3 ∧
 ∀ w5, w5 = w4.setCells b2 0 ([.int .i64 x1, .slice none 0 0, .slice none 0 0] : List Value) →
 ∃ (I1 : Int → World → Prop) (μ1 : Int → World → Nat), I1 0 w5 ∧
 ∀ x4 w6, I1 x4 w6 →
 (x4 < x1 →
 ∃ A5 n5 c5, w6.cell? ⟨b2, 1, none⟩ = some (.slice A5 n5 c5) ∧
 ∀ b3 w7, b3 = w6.heap.size → w7 = w6.alloc (.cells #[.int .i64 0] 3) →
 ∃ l1 l2 : List Value, (n5 + 1) * 8 ≤ 140737488355328 ∧ l1.length = n5 * 1 ∧ RdS w7 A5 l1 ∧ l2.length = 1 * 1 ∧ RdS w7 (some ⟨b3, 0, none⟩) l2 ∧ One l2 ∧ (n5 + 1 ≤ c5 → Room w7 A5 (n5 * 1) (1 * 1)) ∧
 ∀ A6 c6 w8, Appended w7 3 1 #[.int .i64 0] A5 n5 c5 1 l1 l2 A6 c6 w8 →
 (w8.cell? ⟨b2, 1, none⟩).isSome = true ∧ w8.frozen? ⟨b2, 1, none⟩ = false ∧
 ∀ w9, w9 = w8.setCell ⟨b2, 1, none⟩ (.slice A6 (n5 + 1) c6) →
 ∃ A7 n6 c7, w9.cell? ⟨b2, 2, none⟩ = some (.slice A7 n6 c7) ∧
 ∀ b4 w10, b4 = w9.heap.size → w10 = w9.alloc (.cells #[.int .i64 (-1)] 3) →
 ∃ l3 l4 : List Value, (n6 + 1) * 8 ≤ 140737488355328 ∧ l3.length = n6 * 1 ∧ RdS w10 A7 l3 ∧ l4.length = 1 * 1 ∧ RdS w10 (some ⟨b4, 0, none⟩) l4 ∧ One l4 ∧ (n6 + 1 ≤ c7 → Room w10 A7 (n6 * 1) (1 * 1)) ∧
 ∀ A8 c8 w11, Appended w10 3 1 #[.int .i64 0] A7 n6 c7 1 l3 l4 A8 c8 w11 →
 (w11.cell? ⟨b2, 2, none⟩).isSome = true ∧ w11.frozen? ⟨b2, 2, none⟩ = false ∧
 ∀ w12, w12 = w11.setCell ⟨b2, 2, none⟩ (.slice A8 (n6 + 1) c8) →
 I1 (IntKind.i64.wrap (x4 + 1)) w12 ∧ μ1 (IntKind.i64.wrap (x4 + 1)) w12 < μ1 x4 w6) ∧
 (¬ x4 < x1 →
 ∃ (I2 : Int → Int → Int → World → Prop) (μ2 : Int → Int → Int → World → Nat), I2 0 x1 1 w6 ∧
 ∀ x5 x6 x7 w13, I2 x5 x6 x7 w13 →
 ∃ J1 : World → Prop, (∀  (w14 : World), J1 w14 →
 ∃ (I3 : Int → Int → World → Prop) (μ3 : Int → Int → World → Nat), I3 0 0 w14 ∧
 ∀ x8 x9 w15, I3 x8 x9 w15 →
 (x9 < x6 →
 ∃ A9 n7 c9, w15.cell? ⟨b2, 1, none⟩ = some (.slice A9 n7 c9) ∧
 ∀ b5 w16, b5 = w15.heap.size → w16 = w15.alloc (.cells #[.int .i64 x7] 3) →
 ∃ l5 l6 : List Value, (n7 + 1) * 8 ≤ 140737488355328 ∧ l5.length = n7 * 1 ∧ RdS w16 A9 l5 ∧ l6.length = 1 * 1 ∧ RdS w16 (some ⟨b5, 0, none⟩) l6 ∧ One l6 ∧ (n7 + 1 ≤ c9 → Room w16 A9 (n7 * 1) (1 * 1)) ∧
 ∀ A10 c10 w17, Appended w16 3 1 #[.int .i64 0] A9 n7 c9 1 l5 l6 A10 c10 w17 →
 (w17.cell? ⟨b2, 1, none⟩).isSome = true ∧ w17.frozen? ⟨b2, 1, none⟩ = false ∧
 ∀ w18, w18 = w17.setCell ⟨b2, 1, none⟩ (.slice A10 (n7 + 1) c10) →
 ∃ A11 n8 c11, w18.cell? ⟨b2, 2, none⟩ = some (.slice A11 n8 c11) ∧
 ∀ b6 w19, b6 = w18.heap.size → w19 = w18.alloc (.cells #[.int .i64 (IntKind.i64.wrap (x5 + x9))] 3) →
 ∃ l7 l8 : List Value, (n8 + 1) * 8 ≤ 140737488355328 ∧ l7.length = n8 * 1 ∧ RdS w19 A11 l7 ∧ l8.length = 1 * 1 ∧ RdS w19 (some ⟨b6, 0, none⟩) l8 ∧ One l8 ∧ (n8 + 1 ≤ c11 → Room w19 A11 (n8 * 1) (1 * 1)) ∧
 ∀ A12 c12 w20, Appended w19 3 1 #[.int .i64 0] A11 n8 c11 1 l7 l8 A12 c12 w20 →
 (w20.cell? ⟨b2, 2, none⟩).isSome = true ∧ w20.frozen? ⟨b2, 2, none⟩ = false ∧
 ∀ w21, w21 = w20.setCell ⟨b2, 2, none⟩ (.slice A12 (n8 + 1) c12) →
 I3 (IntKind.i64.wrap (x8 + 1)) (IntKind.i64.wrap (x9 + 6)) w21 ∧ μ3 (IntKind.i64.wrap (x8 + 1)) (IntKind.i64.wrap (x9 + 6)) w21 < μ3 x8 x9 w15) ∧
 (¬ x9 < x6 →
 I2 (IntKind.i64.wrap (x5 + x6)) x8 (IntKind.i64.wrap (x7 + 1)) w15 ∧ μ2 (IntKind.i64.wrap (x5 + x6)) x8 (IntKind.i64.wrap (x7 + 1)) w15 < μ2 x5 x6 x7 w13)) ∧
 (x7 = 1 →
 J1 w13) ∧
 (x7 ≠ 1 →
 (x6 > 1 →
 J1 w13) ∧
 (¬ x6 > 1 →
 ∃ x10 A13 n9 c13 A14 n10 c14, w13.rangeAt b2 0 ([.int .i64 x10, .slice A13 n9 c13, .slice A14 n10 c14] : List Value) ∧
 w13.there b1 0 3 ∧
 ∀ w22, w22 = w13.setCells b1 0 ([.int .i64 x10, .slice A13 n9 c13, .slice A14 n10 c14] : List Value) →
 ∃ x11 A15 n11 c15 A16 n12 c16, w22.rangeAt b1 0 ([.int .i64 x11, .slice A15 n11 c15, .slice A16 n12 c16] : List Value) ∧ Q (.tuple #[.agg #[.int .i64 x11, .slice A15 n11 c15, .slice A16 n12 c16], .int .i64 0]) w22)))))
theorem L_5 (x1 : Int) (w : World) (Q : Value → World → Prop) (h : S_5 x1 w Q) : Ret Tryz.prog 5 #[.int .i64 x1] w Q := by
 unfold S_5 at h
 refine ret_of_wp Tryz.func5 rfl (wp_seq (qx (qq (qac rfl Tryz.zeroValue37 ?_))))
 intro b1 w1 e1 e2; replace h := h b1 w1 e1 e2
 refine qbr (qz (wp_seq (wp_seq (qx (qbt 3 (wl_split (e := (decide (x1 < 1))) ?_ ?_))))))
 ·intro hb; refine qbs 13 (e := (decide (x1 < 1))) (b := true) hb ?_
  replace h := h.1 (of_decide_eq_true hb)
  refine qbr (qz (wp_cond_true (by kernel_rfl) (wp_seq (qx (qbt 1 ?_)))))
  obtain ⟨hw, h⟩ := h
  refine qq (qbd (cs := ([.int .i64 0, .slice none 0 0, .slice none 0 0] : List Value)) rfl Tryz.sizeOf37 rfl (qab) hw ?_)
  intro w2 e1; replace h := h w2 e1
  refine qbr (qz (wp_ret (qs ?_)))
  obtain ⟨x2, A1, n1, c1, A2, n2, c2, hx0, h⟩ := h
  exact qbi (vs := [.agg #[.int .i64 x2, .slice A1 n1 c1, .slice A2 n2 c2], .int .i64 1]) (v := .tuple #[.agg #[.int .i64 x2, .slice A1 n1 c1, .slice A2 n2 c2], .int .i64 1]) Tryz.results5 ⟨⟨b1, 0, by kernel_rfl, run_loadN Tryz.isAgg37 Tryz.sizeOf37 (by simp []) hx0⟩, qbf, trivial⟩ h
 ·intro hb; refine qbs 13 (e := (decide (x1 < 1))) (b := false) hb ?_
  replace h := h.2 (of_decide_eq_false hb)
  refine qbr (qz (wp_cond_split (t := (decide (x1 > 216))) (by kernel_rfl) (fun hb => ?_) (fun hb => ?_)))
  ·replace h := h.1 (of_decide_eq_true hb)
   refine wp_seq (qx (qbt 1 ?_))
   obtain ⟨hw, h⟩ := h
   refine qq (qbd (cs := ([.int .i64 0, .slice none 0 0, .slice none 0 0] : List Value)) rfl Tryz.sizeOf37 rfl (qab) hw ?_)
   intro w3 e1; replace h := h w3 e1
   refine qbr (qz (wp_ret (qs ?_)))
   obtain ⟨x3, A3, n3, c3, A4, n4, c4, hx0, h⟩ := h
   exact qbi (vs := [.agg #[.int .i64 x3, .slice A3 n3 c3, .slice A4 n4 c4], .int .i64 1]) (v := .tuple #[.agg #[.int .i64 x3, .slice A3 n3 c3, .slice A4 n4 c4], .int .i64 1]) Tryz.results5 ⟨⟨b1, 0, by kernel_rfl, run_loadN Tryz.isAgg37 Tryz.sizeOf37 (by simp []) hx0⟩, qbf, trivial⟩ h
  ·replace h := h.2 (of_decide_eq_false hb)
   refine wp_skip (qz (wp_seq (qx (qbt 2 (qq (qac rfl Tryz.zeroValue37 ?_))))))
   intro b2 w4 e1 e2; replace h := h b2 w4 e1 e2
   obtain ⟨hw, h⟩ := h
   refine qq (qbd (cs := ([.int .i64 x1, .slice none 0 0, .slice none 0 0] : List Value)) rfl Tryz.sizeOf37 rfl (qab) hw ?_)
   intro w5 e1; replace h := h w5 e1
   refine qo (qz (wp_seq (wp_seq (qx (qbr (qz (wp_block ?_)))))))
   obtain ⟨I1, μ1, hI1, hB1⟩ := h
   refine wp_loop_st (σ := Int) (fun s a => ∃ u1 : Nat → Value, a = ⟨#[.int .i64 x1, undef, .pointer (some ⟨b1, 0, none⟩), .int .i64 0, .pointer (some ⟨b2, 0, none⟩), .int .i64 s, undef, undef, undef, undef, undef, .int .i64 x1, .bool (decide (x1 < 1)), .bool false, .int .i64 x1, .bool (decide (x1 > 216)), .bool (decide (x1 > 216)), undef, .int .i64 x1, .agg #[.int .i64 x1, .slice none 0 0, .slice none 0 0], u1 20, u1 21, u1 22, u1 23, u1 24, u1 25, u1 26, u1 27, u1 28, u1 29, u1 30, u1 31, u1 32, u1 33, u1 34, undef, undef, undef, undef, undef, undef, undef, undef, undef, undef, undef, undef, undef, undef, undef, undef, undef, undef, undef, undef, undef, undef, undef, undef, undef, undef, undef, undef, undef, undef, undef, undef, undef, undef, undef], []⟩) (fun s w => I1 s w) (fun s w => μ1 s w) (0) (qaa) hI1 ?_
   rintro x4 a w6 ⟨u1, rfl⟩ hI1
   have h := hB1 x4 w6 hI1
   refine wp_seq (wp_seq (qx (qbr (qz (wp_cond_split (t := (decide (x4 < x1))) (by kernel_rfl) (fun hb => ?_) (fun hb => ?_))))))
   ·replace h := h.1 (of_decide_eq_true hb)
    refine wp_skip (qz (wp_seq (wp_block (wp_seq (qx (qbt 1 ?_))))))
    obtain ⟨A5, n5, c5, hx, h⟩ := h
    refine qq (qap (v := .slice A5 n5 c5) rfl Tryz.isAgg30 hx ?_)
    refine qq (qag (cs := ([.int .i64 0] : List Value)) rfl Tryz.underlying30 Tryz.sizeOf3 Tryz.zeroValue3 (by kernel_rfl) (by decide) (by decide) ?_)
    intro b3 w7 e1 e2; replace h := h b3 w7 e1 e2
    obtain ⟨l1, l2, h1, h2, h3, h4, h5, h6, h7, h⟩ := h
    refine qq (qad (A := A5) (n := n5) (c := c5) (B := (some ⟨b3, 0, none⟩)) (m := 1) (c2 := 1) (olds := l1) (news := l2) rfl Tryz.underlying30 Tryz.underlying30 Tryz.typeInfo3 rfl (by decide) h1 h2 h3 h4 h5 h6 h7 ?_)
    intro A6 c6 w8 e1; replace h := h A6 c6 w8 e1
    refine qbt 1 ?_
    obtain ⟨hc, hf, h⟩ := h
    refine qq (qbc (v := .slice A6 (n5 + 1) c6) rfl Tryz.sizeOf30 rfl hc hf ?_)
    intro w9 e1; replace h := h w9 e1
    refine qo (qz (qx (qbt 1 ?_)))
    obtain ⟨A7, n6, c7, hx, h⟩ := h
    refine qq (qap (v := .slice A7 n6 c7) rfl Tryz.isAgg30 hx ?_)
    refine qq (qag (cs := ([.int .i64 (-1)] : List Value)) rfl Tryz.underlying30 Tryz.sizeOf3 Tryz.zeroValue3 (by kernel_rfl) (by decide) (by decide) ?_)
    intro b4 w10 e1 e2; replace h := h b4 w10 e1 e2
    obtain ⟨l3, l4, h1, h2, h3, h4, h5, h6, h7, h⟩ := h
    refine qq (qad (A := A7) (n := n6) (c := c7) (B := (some ⟨b4, 0, none⟩)) (m := 1) (c2 := 1) (olds := l3) (news := l4) rfl Tryz.underlying30 Tryz.underlying30 Tryz.typeInfo3 rfl (by decide) h1 h2 h3 h4 h5 h6 h7 ?_)
    intro A8 c8 w11 e1; replace h := h A8 c8 w11 e1
    refine qbt 1 ?_
    obtain ⟨hc, hf, h⟩ := h
    refine qq (qbc (v := .slice A8 (n6 + 1) c8) rfl Tryz.sizeOf30 rfl hc hf ?_)
    intro w12 e1; replace h := h w12 e1
    refine qo (qu (qz (qx (qbr (qz ?_)))))
    exact ⟨((IntKind.i64.wrap (x4 + 1))), qaa, h.1, h.2⟩
   ·replace h := h.2 (of_decide_eq_false hb)
    refine wp_exit (qr (qr (block_exit_eq (qz (wp_seq (qx (qbr (qz (wp_seq (wp_seq (qx (qbr (qz (wp_block ?_))))))))))))))
    obtain ⟨I2, μ2, hI2, hB2⟩ := h
    refine wp_loop_st (σ := Int × Int × Int) (fun s a => ∃ u2 : Nat → Value, a = ⟨#[.int .i64 x1, undef, .pointer (some ⟨b1, 0, none⟩), .int .i64 0, .pointer (some ⟨b2, 0, none⟩), .int .i64 x4, .int .i64 s.1, .int .i64 s.2.1, .int .i64 s.2.2, u2 9, u2 10, .int .i64 x1, .bool (decide (x1 < 1)), .bool false, .int .i64 x1, .bool (decide (x1 > 216)), .bool (decide (x1 > 216)), undef, .int .i64 x1, .agg #[.int .i64 x1, .slice none 0 0, .slice none 0 0], .int .i64 x4, .int .i64 x1, .bool (decide (x4 < x1)), u1 23, u1 24, u1 25, u1 26, u1 27, u1 28, u1 29, u1 30, u1 31, u1 32, u1 33, u1 34, .int .i64 x1, u2 36, u2 37, u2 38, u2 39, u2 40, u2 41, u2 42, u2 43, u2 44, u2 45, u2 46, u2 47, u2 48, u2 49, u2 50, u2 51, u2 52, u2 53, u2 54, u2 55, u2 56, u2 57, u2 58, u2 59, u2 60, u2 61, u2 62, u2 63, u2 64, u2 65, u2 66, u2 67, u2 68, undef], []⟩) (fun s w => I2 s.1 s.2.1 s.2.2 w) (fun s w => μ2 s.1 s.2.1 s.2.2 w) (0, x1, 1) (qaa) hI2 ?_
    rintro ⟨x5, x6, x7⟩ a w13 ⟨u2, rfl⟩ hI2
    have h := hB2 x5 x6 x7 w13 hI2
    obtain ⟨J1, hJ1, h⟩ := h
    refine wp_seq_join (σ := Unit) (fun s vj1 => ⟨#[.int .i64 x1, undef, .pointer (some ⟨b1, 0, none⟩), .int .i64 0, .pointer (some ⟨b2, 0, none⟩), .int .i64 x4, .int .i64 x5, .int .i64 x6, .int .i64 x7, u2 9, u2 10, .int .i64 x1, .bool (decide (x1 < 1)), .bool false, .int .i64 x1, .bool (decide (x1 > 216)), .bool (decide (x1 > 216)), undef, .int .i64 x1, .agg #[.int .i64 x1, .slice none 0 0, .slice none 0 0], .int .i64 x4, .int .i64 x1, .bool (decide (x4 < x1)), u1 23, u1 24, u1 25, u1 26, u1 27, u1 28, u1 29, u1 30, u1 31, u1 32, u1 33, u1 34, .int .i64 x1, .int .i64 x7, .bool (x7 == 1), vj1 38, vj1 39, vj1 40, vj1 41, u2 42, u2 43, u2 44, u2 45, u2 46, u2 47, u2 48, u2 49, u2 50, u2 51, u2 52, u2 53, u2 54, u2 55, u2 56, u2 57, u2 58, u2 59, u2 60, u2 61, u2 62, u2 63, u2 64, u2 65, u2 66, u2 67, u2 68, undef], []⟩) (fun s w => J1 w) ?_ ?_
    ·clear h; rintro _ vj1 w14 hj
     have h := hJ1 w14 hj
     refine wp_seq (wp_block (wp_seq (qx (qbr (qz (wp_seq (wp_seq (qx (qbr (qz (wp_block ?_)))))))))))
     obtain ⟨I3, μ3, hI3, hB3⟩ := h
     refine wp_loop_st (σ := Int × Int) (fun s a => ∃ u3 : Nat → Value, a = ⟨#[.int .i64 x1, undef, .pointer (some ⟨b1, 0, none⟩), .int .i64 0, .pointer (some ⟨b2, 0, none⟩), .int .i64 x4, .int .i64 x5, .int .i64 x6, .int .i64 x7, .int .i64 s.1, .int .i64 s.2, .int .i64 x1, .bool (decide (x1 < 1)), .bool false, .int .i64 x1, .bool (decide (x1 > 216)), .bool (decide (x1 > 216)), undef, .int .i64 x1, .agg #[.int .i64 x1, .slice none 0 0, .slice none 0 0], .int .i64 x4, .int .i64 x1, .bool (decide (x4 < x1)), u1 23, u1 24, u1 25, u1 26, u1 27, u1 28, u1 29, u1 30, u1 31, u1 32, u1 33, u1 34, .int .i64 x1, .int .i64 x7, .bool (x7 == 1), vj1 38, vj1 39, vj1 40, vj1 41, u2 42, u2 43, u3 44, u3 45, u3 46, u3 47, u3 48, u3 49, u3 50, u3 51, u3 52, u3 53, u3 54, u3 55, u3 56, u3 57, u3 58, u3 59, u3 60, u3 61, u3 62, u3 63, u3 64, u2 65, u2 66, u2 67, u2 68, undef], []⟩) (fun s w => I3 s.1 s.2 w) (fun s w => μ3 s.1 s.2 w) (0, 0) (qaa) hI3 ?_
     rintro ⟨x8, x9⟩ a w15 ⟨u3, rfl⟩ hI3
     have h := hB3 x8 x9 w15 hI3
     refine wp_seq (wp_seq (qx (qbr (qz (wp_cond_split (t := (decide (x9 < x6))) (by kernel_rfl) (fun hb => ?_) (fun hb => ?_))))))
     ·replace h := h.1 (of_decide_eq_true hb)
      refine wp_skip (qz (wp_seq (wp_block (wp_seq (qx (qbt 1 ?_))))))
      obtain ⟨A9, n7, c9, hx, h⟩ := h
      refine qq (qap (v := .slice A9 n7 c9) rfl Tryz.isAgg30 hx ?_)
      refine qbt 1 (qq (qag (cs := ([.int .i64 x7] : List Value)) rfl Tryz.underlying30 Tryz.sizeOf3 Tryz.zeroValue3 (by kernel_rfl) (by decide) (by decide) ?_))
      intro b5 w16 e1 e2; replace h := h b5 w16 e1 e2
      obtain ⟨l5, l6, h1, h2, h3, h4, h5, h6, h7, h⟩ := h
      refine qq (qad (A := A9) (n := n7) (c := c9) (B := (some ⟨b5, 0, none⟩)) (m := 1) (c2 := 1) (olds := l5) (news := l6) rfl Tryz.underlying30 Tryz.underlying30 Tryz.typeInfo3 rfl (by decide) h1 h2 h3 h4 h5 h6 h7 ?_)
      intro A10 c10 w17 e1; replace h := h A10 c10 w17 e1
      refine qbt 1 ?_
      obtain ⟨hc, hf, h⟩ := h
      refine qq (qbc (v := .slice A10 (n7 + 1) c10) rfl Tryz.sizeOf30 rfl hc hf ?_)
      intro w18 e1; replace h := h w18 e1
      refine qo (qz (wp_seq (qx (qbt 1 ?_))))
      obtain ⟨A11, n8, c11, hx, h⟩ := h
      refine qq (qap (v := .slice A11 n8 c11) rfl Tryz.isAgg30 hx ?_)
      refine qbt 3 (qq (qag (cs := ([.int .i64 (IntKind.i64.wrap (x5 + x9))] : List Value)) rfl Tryz.underlying30 Tryz.sizeOf3 Tryz.zeroValue3 (by kernel_rfl) (by decide) (by decide) ?_))
      intro b6 w19 e1 e2; replace h := h b6 w19 e1 e2
      obtain ⟨l7, l8, h1, h2, h3, h4, h5, h6, h7, h⟩ := h
      refine qq (qad (A := A11) (n := n8) (c := c11) (B := (some ⟨b6, 0, none⟩)) (m := 1) (c2 := 1) (olds := l7) (news := l8) rfl Tryz.underlying30 Tryz.underlying30 Tryz.typeInfo3 rfl (by decide) h1 h2 h3 h4 h5 h6 h7 ?_)
      intro A12 c12 w20 e1; replace h := h A12 c12 w20 e1
      refine qbt 1 ?_
      obtain ⟨hc, hf, h⟩ := h
      refine qq (qbc (v := .slice A12 (n8 + 1) c12) rfl Tryz.sizeOf30 rfl hc hf ?_)
      intro w21 e1; replace h := h w21 e1
      refine qo (qz (qx (qbr (qu (qz (qx (qbr (qz ?_))))))))
      exact ⟨((IntKind.i64.wrap (x8 + 1)), (IntKind.i64.wrap (x9 + 6))), qaa, h.1, h.2⟩
     ·replace h := h.2 (of_decide_eq_false hb)
      refine wp_exit (qr (qr (block_exit_eq (qz (qx (qbr (qu (qz (qx (qbr (qz ?_)))))))))))
      exact ⟨((IntKind.i64.wrap (x5 + x6)), x8, (IntKind.i64.wrap (x7 + 1))), qaa, h.1, h.2⟩
    ·clear hJ1
     refine wp_seq (qx (qbt 3 (wl_split (e := (x7 == 1)) ?_ ?_)))
     ·intro hb; refine qbs 38 (e := (x7 == 1)) (b := true) hb ?_
      replace h := h.1 (eq_of_beq hb)
      refine qbr (qz (wp_cond_true (by kernel_rfl) (wp_skip (qz ?_))))
      exact ⟨(), h, qaa⟩
     ·intro hb; refine qbs 38 (e := (x7 == 1)) (b := false) hb ?_
      replace h := h.2 (ne_of_beq_false hb)
      refine qbr (qz (wp_cond_split (t := (decide (x6 > 1))) (by kernel_rfl) (fun hb => ?_) (fun hb => ?_)))
      ·replace h := h.1 (of_decide_eq_true hb)
       refine wp_skip (qz ?_)
       exact ⟨(), h, qaa⟩
      ·replace h := h.2 (of_decide_eq_false hb)
       refine wp_exit (qr (qr (block_exit_eq (qz (wp_seq (qx ?_))))))
       obtain ⟨x10, A13, n9, c13, A14, n10, c14, hx, h⟩ := h
       refine qq (qaq (cs := ([.int .i64 x10, .slice A13 n9 c13, .slice A14 n10 c14] : List Value)) rfl Tryz.isAgg37 Tryz.sizeOf37 (by simp []) hx ?_)
       obtain ⟨hw, h⟩ := h
       refine qq (qbd (cs := ([.int .i64 x10, .slice A13 n9 c13, .slice A14 n10 c14] : List Value)) rfl Tryz.sizeOf37 rfl (qab) hw ?_)
       intro w22 e1; replace h := h w22 e1
       refine qbr (qz (wp_ret ?_))
       obtain ⟨x11, A15, n11, c15, A16, n12, c16, hx0, h⟩ := h
       exact qbi (vs := [.agg #[.int .i64 x11, .slice A15 n11 c15, .slice A16 n12 c16], .int .i64 0]) (v := .tuple #[.agg #[.int .i64 x11, .slice A15 n11 c15, .slice A16 n12 c16], .int .i64 0]) Tryz.results5 ⟨⟨b1, 0, by kernel_rfl, run_loadN Tryz.isAgg37 Tryz.sizeOf37 (by simp []) hx0⟩, qbf, trivial⟩ h
def S_29 (x1 : Int) (A1 : Option Addr) (n1 c1 : Nat) (A2 : Option Addr) (n2 c2 : Nat) (x2 : Int) (w : World) (Q : Value → World → Prop) : Prop :=
 ∀ b1 w1, b1 = w.heap.size → w1 = w.alloc (.cells #[.int .i64 x1, .slice A1 n1 c1, .slice A2 n2 c2] 37) →
 ∃ x3 A3 n3 c3 A4 n4 c4, w1.rangeAt b1 0 ([.int .i64 x3, .slice A3 n3 c3, .slice A4 n4 c4] : List Value) ∧
 Ret Tryz.prog 50 #[.agg #[.int .i64 x3, .slice A3 n3 c3, .slice A4 n4 c4], .int .i64 x2] w1 fun r1 w2 => ∃ q1, r1 = .bool q1 ∧
 (q1 = false →
 Q (.slice none 0 0) w2) ∧
 (q1 = true →
 ∃ A5 n5 c5, w2.cell? ⟨b1, 2, none⟩ = some (.slice A5 n5 c5) ∧
 ∃ b2 o1, A5 = some ⟨b2, o1, none⟩ ∧ (0 : Int) ≤ x2 ∧ x2 < (n5 : Int) ∧
 ∃ x4, w2.cell? ⟨b2, (o1 + (x2).toNat * 1), none⟩ = some (.int .i64 x4) ∧
 (x4 < 0 →
 Q (.slice none 0 0) w2) ∧
 (¬ x4 < 0 →
 ∃ A6 n6 c6, w2.cell? ⟨b1, 2, none⟩ = some (.slice A6 n6 c6) ∧
 ∃ b3 o2, A6 = some ⟨b3, o2, none⟩ ∧ (0 : Int) ≤ x2 ∧ x2 < (n6 : Int) ∧
 ∃ x5, w2.cell? ⟨b3, (o2 + (x2).toNat * 1), none⟩ = some (.int .i64 x5) ∧
 ∃ (I1 : (Option Addr) → Nat → Nat → Int → World → Prop) (μ1 : (Option Addr) → Nat → Nat → Int → World → Nat), I1 none 0 0 x5 w2 ∧
 ∀ A7 n7 c7 x6 w3, I1 A7 n7 c7 x6 w3 →
 ∀ w4, w4 = w3.drew →
 ((n7 : Int) < 6 →
 (x6 < x2 →
 ∃ A8 n8 c8, w3.cell? ⟨b1, 1, none⟩ = some (.slice A8 n8 c8) ∧
 ∃ b4 o3, A8 = some ⟨b4, o3, none⟩ ∧ (0 : Int) ≤ x6 ∧ x6 < (n8 : Int) ∧
 ∃ x7, w3.cell? ⟨b4, (o3 + (x6).toNat * 1), none⟩ = some (.int .i64 x7) ∧
 ∃ A9 n9 c9, w3.cell? ⟨b1, 1, none⟩ = some (.slice A9 n9 c9) ∧
 ∃ b5 o4, A9 = some ⟨b5, o4, none⟩ ∧ (0 : Int) ≤ x2 ∧ x2 < (n9 : Int) ∧
 ∃ x8, w3.cell? ⟨b5, (o4 + (x2).toNat * 1), none⟩ = some (.int .i64 x8) ∧
 (x7 = (IntKind.i64.wrap (x8 - 1)) →
 ∀ b6 w5, b6 = w4.heap.size → w5 = w4.alloc (.cells #[.int .i64 x6] 3) →
 ∃ l1 l2 : List Value, (n7 + 1) * 8 ≤ 140737488355328 ∧ l1.length = n7 * 1 ∧ RdS w5 A7 l1 ∧ l2.length = 1 * 1 ∧ RdS w5 (some ⟨b6, 0, none⟩) l2 ∧ One l2 ∧ (n7 + 1 ≤ c7 → Room w5 A7 (n7 * 1) (1 * 1)) ∧
 ∀ A10 c10 w6, Appended w5 3 1 #[.int .i64 0] A7 n7 c7 1 l1 l2 A10 c10 w6 →
 I1 A10 (n7 + 1) c10 (IntKind.i64.wrap (x6 + 1)) w6 ∧ μ1 A10 (n7 + 1) c10 (IntKind.i64.wrap (x6 + 1)) w6 < μ1 A7 n7 c7 x6 w3) ∧
 (x7 ≠ (IntKind.i64.wrap (x8 - 1)) →
 Q (.slice A7 n7 c7) w4)) ∧
 (¬ x6 < x2 →
 Q (.slice A7 n7 c7) w4)) ∧
 (¬ (n7 : Int) < 6 →
 Q (.slice A7 n7 c7) w4)))
theorem L_29 (x1 : Int) (A1 : Option Addr) (n1 c1 : Nat) (A2 : Option Addr) (n2 c2 : Nat) (x2 : Int) (w : World) (Q : Value → World → Prop) (h : S_29 x1 A1 n1 c1 A2 n2 c2 x2 w Q) : Ret Tryz.prog 29 #[.agg #[.int .i64 x1, .slice A1 n1 c1, .slice A2 n2 c2], .int .i64 x2] w Q := by
 unfold S_29 at h
 refine ret_of_wp Tryz.func29 rfl (wp_seq (qx (qq (qaf (v := .agg #[.int .i64 x1, .slice A1 n1 c1, .slice A2 n2 c2]) rfl ?_))))
 intro b1 w1 e1 e2; replace h := h b1 w1 e1 e2
 refine qbr (qz (wp_seq (qx (qbr (qz (wp_seq (wp_seq (qx ?_))))))))
 obtain ⟨x3, A3, n3, c3, A4, n4, c4, hx, h⟩ := h
 refine qq (qaq (cs := ([.int .i64 x3, .slice A3 n3 c3, .slice A4 n4 c4] : List Value)) rfl Tryz.isAgg37 Tryz.sizeOf37 (by simp []) hx ?_)
 refine qbt 1 (qq (qai (args := #[.agg #[.int .i64 x3, .slice A3 n3 c3, .slice A4 n4 c4], .int .i64 x2]) rfl Tryz.call50 (Ret.mono h ?_)))
 clear h; rintro r1 w2 ⟨q1, rfl, h⟩
 refine qbt 2 (wl_split (e := (!q1)) ?_ ?_)
 ·intro hb; refine qbs 11 (e := (!q1)) (b := true) hb ?_
  replace h := h.1 ((not_flip hb))
  refine qbr (qz (wp_cond_true (by kernel_rfl) (wp_seq (qx (qbr (qz (wp_ret (qs ?_))))))))
  exact qbh (v := .slice none 0 0) h
 ·intro hb; refine qbs 11 (e := (!q1)) (b := false) hb ?_
  replace h := h.2 ((not_flip hb))
  refine qbt 1 ?_
  obtain ⟨A5, n5, c5, hx, h⟩ := h
  refine qq (qap (v := .slice A5 n5 c5) rfl Tryz.isAgg30 hx ?_)
  refine qbt 1 ?_
  obtain ⟨b2, o1, rfl, h⟩ := h
  obtain ⟨h1, h2, h⟩ := h
  refine qq (qan (k := .i64) (j := x2) (b := b2) (off := o1) (n := n5) (c := c5) rfl Tryz.underlying30 Tryz.sizeOf3 h1 h2 ?_)
  obtain ⟨x4, hx, h⟩ := h
  refine qq (qap (v := .int .i64 x4) rfl Tryz.isAgg3 hx ?_)
  refine qbr (qz (wp_cond_split (t := (decide (x4 < 0))) (by kernel_rfl) (fun hb => ?_) (fun hb => ?_)))
  ·replace h := h.1 (of_decide_eq_true hb)
   refine wp_seq (qx (qbr (qz (wp_ret (qs ?_)))))
   exact qbh (v := .slice none 0 0) h
  ·replace h := h.2 (of_decide_eq_false hb)
   refine wp_skip (qz (wp_seq (wp_seq (qx (qbt 1 ?_)))))
   obtain ⟨A6, n6, c6, hx, h⟩ := h
   refine qq (qap (v := .slice A6 n6 c6) rfl Tryz.isAgg30 hx ?_)
   refine qbt 1 ?_
   obtain ⟨b3, o2, rfl, h⟩ := h
   obtain ⟨h1, h2, h⟩ := h
   refine qq (qan (k := .i64) (j := x2) (b := b3) (off := o2) (n := n6) (c := c6) rfl Tryz.underlying30 Tryz.sizeOf3 h1 h2 ?_)
   obtain ⟨x5, hx, h⟩ := h
   refine qq (qap (v := .int .i64 x5) rfl Tryz.isAgg3 hx ?_)
   refine qbr (qz (wp_block ?_))
   obtain ⟨I1, μ1, hI1, hB1⟩ := h
   refine wp_loop_st (σ := (Option Addr) × Nat × Nat × Int) (fun s a => ∃ u1 : Nat → Value, a = ⟨#[.agg #[.int .i64 x1, .slice A1 n1 c1, .slice A2 n2 c2], .int .i64 x2, .pointer (some ⟨b1, 0, none⟩), undef, .slice none 0 0, .slice s.1 s.2.1 s.2.2.1, .int .i64 s.2.2.2, .agg #[.int .i64 x3, .slice A3 n3 c3, .slice A4 n4 c4], .int .i64 x2, .bool q1, .bool (!q1), .bool false, .pointer (some ⟨b1, 2, none⟩), .slice (some ⟨b2, o1, none⟩) n5 c5, .int .i64 x2, .pointer (some ⟨b2, (o1 + (x2).toNat * 1), none⟩), .int .i64 x4, .bool (decide (x4 < 0)), .bool (decide (x4 < 0)), .pointer (some ⟨b1, 2, none⟩), .slice (some ⟨b3, o2, none⟩) n6 c6, .int .i64 x2, .pointer (some ⟨b3, (o2 + (x2).toNat * 1), none⟩), .int .i64 x5, u1 24, u1 25, u1 26, u1 27, u1 28, u1 29, u1 30, u1 31, u1 32, u1 33, u1 34, u1 35, u1 36, u1 37, u1 38, u1 39, u1 40, u1 41, u1 42, u1 43, u1 44, u1 45, u1 46, u1 47, u1 48, u1 49, u1 50, u1 51, undef], []⟩) (fun s w => I1 s.1 s.2.1 s.2.2.1 s.2.2.2 w) (fun s w => μ1 s.1 s.2.1 s.2.2.1 s.2.2.2 w) (none, 0, 0, x5) (qaa) hI1 ?_
   rintro ⟨A7, n7, c7, x6⟩ a w3 ⟨u1, rfl⟩ hI1
   have h := hB1 A7 n7 c7 x6 w3 hI1
   refine wp_seq (wp_seq (qbj (Keep w3) [] ?_))
   intro w4 e1; have hK1 := keep_drew e1; replace h := h w4 e1
   refine qbo 0 rfl (qbz (v := .slice A7 n7 c7)) (qbo 1 rfl (qbz (v := .int .i64 (n7 : Int))) (qbo 2 rfl (qbz (v := .bool (decide ((n7 : Int) < 6)))) (qbo 3 rfl (qbz (v := .bool (decide ((n7 : Int) < 6)))) (wd_split (e := (decide ((n7 : Int) < 6))) ?_ ?_))))
   ·intro hb; refine qbl 27 (e := (decide ((n7 : Int) < 6))) (b := true) hb ?_
    replace h := h.1 (of_decide_eq_true hb)
    refine qbo 4 rfl (qbz (v := .int .i64 x6)) (qbo 5 rfl (qbz (v := .int .i64 x2)) (qbo 6 rfl (qbz (v := .bool (decide (x6 < x2)))) (qbo 7 rfl (qbz (v := .bool (decide (x6 < x2)))) (qbo 8 rfl (qbz (v := .bool (decide (x6 < x2)))) (wd_split (e := (decide (x6 < x2))) ?_ ?_)))))
    ·intro hb; refine qbl 32 (e := (decide (x6 < x2))) (b := true) hb ?_
     replace h := h.1 (of_decide_eq_true hb)
     refine qbo 9 rfl (qbz (v := .pointer (some ⟨b1, 1, none⟩))) ?_
     obtain ⟨A8, n8, c8, hx, h⟩ := h
     refine qbn 10 rfl (qbw (v := .slice A8 n8 c8) rfl Tryz.isAgg30 (fun _ hk => keep_cell hk hx)) hK1 ?_
     refine qbo 11 rfl (qbz (v := .int .i64 x6)) ?_
     obtain ⟨b4, o3, rfl, h⟩ := h
     obtain ⟨h1, h2, h⟩ := h
     refine qbo 12 rfl (qbu (k := .i64) (j := x6) (b := b4) (off := o3) (n := n8) (c := c8) rfl Tryz.underlying30 Tryz.sizeOf3 h1 h2) ?_
     obtain ⟨x7, hx, h⟩ := h
     refine qbn 13 rfl (qbw (v := .int .i64 x7) rfl Tryz.isAgg3 (fun _ hk => keep_cell hk hx)) hK1 ?_
     refine qbo 14 rfl (qbz (v := .pointer (some ⟨b1, 1, none⟩))) ?_
     obtain ⟨A9, n9, c9, hx, h⟩ := h
     refine qbn 15 rfl (qbw (v := .slice A9 n9 c9) rfl Tryz.isAgg30 (fun _ hk => keep_cell hk hx)) hK1 ?_
     refine qbo 16 rfl (qbz (v := .int .i64 x2)) ?_
     obtain ⟨b5, o4, rfl, h⟩ := h
     obtain ⟨h1, h2, h⟩ := h
     refine qbo 17 rfl (qbu (k := .i64) (j := x2) (b := b5) (off := o4) (n := n9) (c := c9) rfl Tryz.underlying30 Tryz.sizeOf3 h1 h2) ?_
     obtain ⟨x8, hx, h⟩ := h
     refine qbn 18 rfl (qbw (v := .int .i64 x8) rfl Tryz.isAgg3 (fun _ hk => keep_cell hk hx)) hK1 ?_
     refine qbo 19 rfl (qbz (v := .int .i64 (IntKind.i64.wrap (x8 - 1)))) (qbo 20 rfl (qbz (v := .bool (x7 == (IntKind.i64.wrap (x8 - 1))))) (qbo 21 rfl (qbz (v := .bool (x7 == (IntKind.i64.wrap (x8 - 1))))) (qbk (qz (wp_cond_split (t := (x7 == (IntKind.i64.wrap (x8 - 1)))) (by kernel_rfl) (fun hb => ?_) (fun hb => ?_))))))
     ·replace h := h.1 (eq_of_beq hb)
      refine wp_skip (qz (wp_seq (wp_block (qx (qbt 2 (qq (qag (cs := ([.int .i64 x6] : List Value)) rfl Tryz.underlying30 Tryz.sizeOf3 Tryz.zeroValue3 (by kernel_rfl) (by decide) (by decide) ?_)))))))
      intro b6 w5 e1 e2; replace h := h b6 w5 e1 e2
      obtain ⟨l1, l2, h1, h2, h3, h4, h5, h6, h7, h⟩ := h
      refine qq (qad (A := A7) (n := n7) (c := c7) (B := (some ⟨b6, 0, none⟩)) (m := 1) (c2 := 1) (olds := l1) (news := l2) rfl Tryz.underlying30 Tryz.underlying30 Tryz.typeInfo3 rfl (by decide) h1 h2 h3 h4 h5 h6 h7 ?_)
      intro A10 c10 w6 e1; replace h := h A10 c10 w6 e1
      refine qbr (qu (qz (qx (qbr (qz ?_)))))
      exact ⟨(A10, (n7 + 1), c10, (IntKind.i64.wrap (x6 + 1))), qaa, h.1, h.2⟩
     ·replace h := h.2 (ne_of_beq_false hb)
      refine wp_exit (qr (qr (block_exit_eq (qz (wp_seq (qx (qbr (qz (wp_ret ?_)))))))))
      exact qbh (v := .slice A7 n7 c7) h
    ·intro hb; refine qbl 32 (e := (decide (x6 < x2))) (b := false) hb ?_
     replace h := h.2 (of_decide_eq_false hb)
     refine qbo 9 rfl (qcb) (qbn 10 rfl (qcb) hK1 (qbo 11 rfl (qcb) (qbo 12 rfl (qcb) (qbn 13 rfl (qcb) hK1 (qbo 14 rfl (qcb) (qbn 15 rfl (qcb) hK1 (qbo 16 rfl (qcb) (qbo 17 rfl (qcb) (qbn 18 rfl (qcb) hK1 (qbo 19 rfl (qcb) (qbo 20 rfl (qcb) (qbo 21 rfl (qbz (v := .bool false)) (qbk (qz (wp_cond_false (by kernel_rfl) (wp_exit (qr (qr (block_exit_eq (qz (wp_seq (qx (qbr (qz (wp_ret ?_)))))))))))))))))))))))))
     exact qbh (v := .slice A7 n7 c7) h
   ·intro hb; refine qbl 27 (e := (decide ((n7 : Int) < 6))) (b := false) hb ?_
    replace h := h.2 (of_decide_eq_false hb)
    refine qbo 4 rfl (qcb) (qbo 5 rfl (qcb) (qbo 6 rfl (qcb) (qbo 7 rfl (qbz (v := .bool false)) (qbo 8 rfl (qbz (v := .bool false)) (qbo 9 rfl (qcb) (qbn 10 rfl (qcb) hK1 (qbo 11 rfl (qcb) (qbo 12 rfl (qcb) (qbn 13 rfl (qcb) hK1 (qbo 14 rfl (qcb) (qbn 15 rfl (qcb) hK1 (qbo 16 rfl (qcb) (qbo 17 rfl (qcb) (qbn 18 rfl (qcb) hK1 (qbo 19 rfl (qcb) (qbo 20 rfl (qcb) (qbo 21 rfl (qbz (v := .bool false)) (qbk (qz (wp_cond_false (by kernel_rfl) (wp_exit (qr (qr (block_exit_eq (qz (wp_seq (qx (qbr (qz (wp_ret ?_))))))))))))))))))))))))))))))
    exact qbh (v := .slice A7 n7 c7) h
def S_31 (x1 : Int) (A1 : Option Addr) (n1 c1 : Nat) (A2 : Option Addr) (n2 c2 : Nat) (x2 : Int) (w : World) (Q : Value → World → Prop) : Prop :=
 ∀ b1 w1, b1 = w.heap.size → w1 = w.alloc (.cells #[.int .i64 x1, .slice A1 n1 c1, .slice A2 n2 c2] 37) →
 ∃ (I1 : Int → World → Prop) (μ1 : Int → World → Nat), I1 0 w1 ∧
 ∀ x3 w2, I1 x3 w2 →
 ∃ A3 n3 c3, w2.cell? ⟨b1, 1, none⟩ = some (.slice A3 n3 c3) ∧
 (x3 < (n3 : Int) →
 ∃ x4 A4 n4 c4 A5 n5 c5, w2.rangeAt b1 0 ([.int .i64 x4, .slice A4 n4 c4, .slice A5 n5 c5] : List Value) ∧
 Ret Tryz.prog 29 #[.agg #[.int .i64 x4, .slice A4 n4 c4, .slice A5 n5 c5], .int .i64 x3] w2 fun r1 w3 => ∃ A6 n6 c6, r1 = .slice A6 n6 c6 ∧
 ∃ (I2 : Int → World → Prop) (μ2 : Int → World → Nat), I2 0 w3 ∧
 ∀ x5 w4, I2 x5 w4 →
 (x5 < (n6 : Int) →
 ∃ b2 o1, A6 = some ⟨b2, o1, none⟩ ∧ (0 : Int) ≤ x5 ∧ x5 < (n6 : Int) ∧
 ∃ x6, w4.cell? ⟨b2, (o1 + (x5).toNat * 1), none⟩ = some (.int .i64 x6) ∧
 (x6 = x2 →
 Q (.tuple #[.int .i64 x3, .int .i64 x5, .bool true]) w4) ∧
 (x6 ≠ x2 →
 I2 (IntKind.i64.wrap (x5 + 1)) w4 ∧ μ2 (IntKind.i64.wrap (x5 + 1)) w4 < μ2 x5 w4)) ∧
 (¬ x5 < (n6 : Int) →
 I1 (IntKind.i64.wrap (x3 + 1)) w4 ∧ μ1 (IntKind.i64.wrap (x3 + 1)) w4 < μ1 x3 w2)) ∧
 (¬ x3 < (n3 : Int) →
 Q (.tuple #[.int .i64 0, .int .i64 0, .bool false]) w2)
theorem L_31 (x1 : Int) (A1 : Option Addr) (n1 c1 : Nat) (A2 : Option Addr) (n2 c2 : Nat) (x2 : Int) (w : World) (Q : Value → World → Prop) (h : S_31 x1 A1 n1 c1 A2 n2 c2 x2 w Q) : Ret Tryz.prog 31 #[.agg #[.int .i64 x1, .slice A1 n1 c1, .slice A2 n2 c2], .int .i64 x2] w Q := by
 unfold S_31 at h
 refine ret_of_wp Tryz.func31 rfl (wp_seq (qx (qq (qaf (v := .agg #[.int .i64 x1, .slice A1 n1 c1, .slice A2 n2 c2]) rfl ?_))))
 intro b1 w1 e1 e2; replace h := h b1 w1 e1 e2
 refine qbr (qz (wp_seq (wp_seq (qx (qbr (qz (wp_block ?_)))))))
 obtain ⟨I1, μ1, hI1, hB1⟩ := h
 refine wp_loop_st (σ := Int) (fun s a => ∃ u1 : Nat → Value, a = ⟨#[.agg #[.int .i64 x1, .slice A1 n1 c1, .slice A2 n2 c2], .int .i64 x2, .pointer (some ⟨b1, 0, none⟩), undef, u1 4, u1 5, u1 6, .int .i64 s, u1 8, u1 9, u1 10, u1 11, u1 12, u1 13, u1 14, u1 15, u1 16, u1 17, u1 18, u1 19, u1 20, u1 21, u1 22, u1 23, u1 24, u1 25, u1 26, u1 27, u1 28, u1 29, u1 30, u1 31, u1 32, u1 33], []⟩) (fun s w => I1 s w) (fun s w => μ1 s w) (0) (qaa) hI1 ?_
 rintro x3 a w2 ⟨u1, rfl⟩ hI1
 have h := hB1 x3 w2 hI1
 refine wp_seq (wp_seq (qx (qbt 2 ?_)))
 obtain ⟨A3, n3, c3, hx, h⟩ := h
 refine qq (qap (v := .slice A3 n3 c3) rfl Tryz.isAgg30 hx ?_)
 refine qbr (qz (wp_cond_split (t := (decide (x3 < (n3 : Int)))) (by kernel_rfl) (fun hb => ?_) (fun hb => ?_)))
 ·replace h := h.1 (of_decide_eq_true hb)
  refine wp_skip (qz (wp_seq (wp_block (wp_seq (qx ?_)))))
  obtain ⟨x4, A4, n4, c4, A5, n5, c5, hx, h⟩ := h
  refine qq (qaq (cs := ([.int .i64 x4, .slice A4 n4 c4, .slice A5 n5 c5] : List Value)) rfl Tryz.isAgg37 Tryz.sizeOf37 (by simp []) hx ?_)
  refine qbt 1 (qq (qai (args := #[.agg #[.int .i64 x4, .slice A4 n4 c4, .slice A5 n5 c5], .int .i64 x3]) rfl Tryz.call29 (Ret.mono h ?_)))
  clear h; rintro r1 w3 ⟨A6, n6, c6, rfl, h⟩
  refine qbr (qz (wp_seq (qx (qbr (qz (wp_block ?_))))))
  obtain ⟨I2, μ2, hI2, hB2⟩ := h
  refine wp_loop_st (σ := Int) (fun s a => ∃ u2 : Nat → Value, a = ⟨#[.agg #[.int .i64 x1, .slice A1 n1 c1, .slice A2 n2 c2], .int .i64 x2, .pointer (some ⟨b1, 0, none⟩), undef, u2 4, u2 5, u2 6, .int .i64 x3, .slice A6 n6 c6, .int .i64 s, .int .i64 x3, .pointer (some ⟨b1, 1, none⟩), .slice A3 n3 c3, .int .i64 (n3 : Int), .bool (decide (x3 < (n3 : Int))), u1 15, u1 16, .agg #[.int .i64 x4, .slice A4 n4 c4, .slice A5 n5 c5], .int .i64 x3, .slice A6 n6 c6, u2 20, u2 21, u2 22, u2 23, u2 24, u2 25, u2 26, u2 27, u2 28, u2 29, u2 30, u2 31, u2 32, u2 33], []⟩) (fun s w => I2 s w) (fun s w => μ2 s w) (0) (qaa) hI2 ?_
  rintro x5 a w4 ⟨u2, rfl⟩ hI2
  have h := hB2 x5 w4 hI2
  refine wp_seq (wp_seq (qx (qbr (qz (wp_cond_split (t := (decide (x5 < (n6 : Int)))) (by kernel_rfl) (fun hb => ?_) (fun hb => ?_))))))
  ·replace h := h.1 (of_decide_eq_true hb)
   refine wp_skip (qz (wp_seq (wp_block (wp_seq (qx (qbt 2 ?_))))))
   obtain ⟨b2, o1, rfl, h⟩ := h
   obtain ⟨h1, h2, h⟩ := h
   refine qq (qan (k := .i64) (j := x5) (b := b2) (off := o1) (n := n6) (c := c6) rfl Tryz.underlying30 Tryz.sizeOf3 h1 h2 ?_)
   obtain ⟨x6, hx, h⟩ := h
   refine qq (qap (v := .int .i64 x6) rfl Tryz.isAgg3 hx ?_)
   refine qbr (qz (wp_cond_split (t := (x6 == x2)) (by kernel_rfl) (fun hb => ?_) (fun hb => ?_)))
   ·replace h := h.1 (eq_of_beq hb)
    refine wp_seq (qx (qbr (qz (wp_ret (block_ret (qs (qs (block_ret (block_ret (qs (qs (block_ret (qs ?_)))))))))))))
    exact qbh (v := .tuple #[.int .i64 x3, .int .i64 x5, .bool true]) h
   ·replace h := h.2 (ne_of_beq_false hb)
    refine wp_skip (qu (qz (qx (qbr (qz ?_)))))
    exact ⟨((IntKind.i64.wrap (x5 + 1))), qaa, h.1, h.2⟩
  ·replace h := h.2 (of_decide_eq_false hb)
   refine wp_exit (qr (qr (block_exit_eq (qu (qz (qx (qbr (qz ?_))))))))
   exact ⟨((IntKind.i64.wrap (x3 + 1))), qaa, h.1, h.2⟩
 ·replace h := h.2 (of_decide_eq_false hb)
  refine wp_exit (qr (qr (block_exit_eq (qz (wp_seq (qx (qbr (qz (wp_ret ?_)))))))))
  exact qbh (v := .tuple #[.int .i64 0, .int .i64 0, .bool false]) h
def S_32 (x1 : Int) (A1 : Option Addr) (n1 c1 : Nat) (A2 : Option Addr) (n2 c2 : Nat) (x2 x3 : Int) (w : World) (Q : Value → World → Prop) : Prop :=
 ∀ b1 w1, b1 = w.heap.size → w1 = w.alloc (.cells #[.int .i64 x1, .slice A1 n1 c1, .slice A2 n2 c2] 37) →
 ∃ x4 A3 n3 c3 A4 n4 c4, w1.rangeAt b1 0 ([.int .i64 x4, .slice A3 n3 c3, .slice A4 n4 c4] : List Value) ∧
 Ret Tryz.prog 50 #[.agg #[.int .i64 x4, .slice A3 n3 c3, .slice A4 n4 c4], .int .i64 x2] w1 fun r1 w2 => ∃ q1, r1 = .bool q1 ∧
 (q1 = false →
 Q (.int .i64 (-1)) w2) ∧
 (q1 = true →
 (x3 < 0 →
 Q (.int .i64 (-1)) w2) ∧
 (¬ x3 < 0 →
 (x3 > 1 →
 Q (.int .i64 (-1)) w2) ∧
 (¬ x3 > 1 →
 Q (.int .i64 (IntKind.i64.wrap ((IntKind.i64.wrap (2 + (IntKind.i64.wrap (2 * x2)))) + x3))) w2)))
theorem L_32 (x1 : Int) (A1 : Option Addr) (n1 c1 : Nat) (A2 : Option Addr) (n2 c2 : Nat) (x2 x3 : Int) (w : World) (Q : Value → World → Prop) (h : S_32 x1 A1 n1 c1 A2 n2 c2 x2 x3 w Q) : Ret Tryz.prog 32 #[.agg #[.int .i64 x1, .slice A1 n1 c1, .slice A2 n2 c2], .int .i64 x2, .int .i64 x3] w Q := by
 unfold S_32 at h
 refine ret_of_wp Tryz.func32 rfl (wp_seq (qx (qq (qaf (v := .agg #[.int .i64 x1, .slice A1 n1 c1, .slice A2 n2 c2]) rfl ?_))))
 intro b1 w1 e1 e2; replace h := h b1 w1 e1 e2
 refine qbr (qz (wp_seq (wp_seq (qx ?_))))
 obtain ⟨x4, A3, n3, c3, A4, n4, c4, hx, h⟩ := h
 refine qq (qaq (cs := ([.int .i64 x4, .slice A3 n3 c3, .slice A4 n4 c4] : List Value)) rfl Tryz.isAgg37 Tryz.sizeOf37 (by simp []) hx ?_)
 refine qbt 1 (qq (qai (args := #[.agg #[.int .i64 x4, .slice A3 n3 c3, .slice A4 n4 c4], .int .i64 x2]) rfl Tryz.call50 (Ret.mono h ?_)))
 clear h; rintro r1 w2 ⟨q1, rfl, h⟩
 refine qbt 2 (wl_split (e := (!q1)) ?_ ?_)
 ·intro hb; refine qbs 11 (e := (!q1)) (b := true) hb ?_
  replace h := h.1 ((not_flip hb))
  refine qbr (qz (wp_cond_true (by kernel_rfl) (wp_seq (qx (qbr (qz (wp_ret (qs ?_))))))))
  exact qbh (v := .int .i64 (-1)) h
 ·intro hb; refine qbs 11 (e := (!q1)) (b := false) hb ?_
  replace h := h.2 ((not_flip hb))
  refine qbt 4 (wl_split (e := (decide (x3 < 0))) ?_ ?_)
  ·intro hb; refine qbs 15 (e := (decide (x3 < 0))) (b := true) hb ?_
   replace h := h.1 (of_decide_eq_true hb)
   refine qbr (qz (wp_cond_true (by kernel_rfl) (wp_seq (qx (qbr (qz (wp_ret (qs ?_))))))))
   exact qbh (v := .int .i64 (-1)) h
  ·intro hb; refine qbs 15 (e := (decide (x3 < 0))) (b := false) hb ?_
   replace h := h.2 (of_decide_eq_false hb)
   refine qbr (qz (wp_cond_split (t := (decide (x3 > 1))) (by kernel_rfl) (fun hb => ?_) (fun hb => ?_)))
   ·replace h := h.1 (of_decide_eq_true hb)
    refine wp_seq (qx (qbr (qz (wp_ret (qs ?_)))))
    exact qbh (v := .int .i64 (-1)) h
   ·replace h := h.2 (of_decide_eq_false hb)
    refine wp_skip (qz (wp_seq (qx (qbr (qz (wp_ret ?_))))))
    exact qbh (v := .int .i64 (IntKind.i64.wrap ((IntKind.i64.wrap (2 + (IntKind.i64.wrap (2 * x2)))) + x3))) h
def S_35 (A1 : Option Addr) (n1 c1 : Nat) (x1 : Int) (w : World) (Q : Value → World → Prop) : Prop :=
 ∀ b1 w1, b1 = w.heap.size → w1 = w.alloc (.cells #[.slice A1 n1 c1] 32) →
 ∃ A2 n2 c2, w1.rangeAt b1 0 ([.slice A2 n2 c2] : List Value) ∧
 Ret Tryz.prog 54 #[.agg #[.slice A2 n2 c2], .int .i64 x1] w1 fun r1 w2 => ∃ x2, r1 = .int .i64 x2 ∧
 (x2 ≠ 0 →
 Q (.slice none 0 0) w2) ∧
 (x2 = 0 →
 ∀ b2 w3, b2 = w2.heap.size → w3 = w2.alloc (.cells #[.int .i64 x1] 3) →
 ∃ A3 n3 c3, w3.rangeAt b1 0 ([.slice A3 n3 c3] : List Value) ∧
 Ret Tryz.prog 44 #[.agg #[.slice A3 n3 c3], .int .i64 x1] w3 fun r2 w4 => ∃ x3 x4 q1, r2 = .tuple #[.int .i64 x3, .int .i64 x4, .bool q1] ∧
 ∃ (I1 : (Option Addr) → Nat → Nat → Int → Bool → World → Prop) (μ1 : (Option Addr) → Nat → Nat → Int → Bool → World → Nat), I1 (some ⟨b2, 0, none⟩) 1 1 x3 q1 w4 ∧
 ∀ A4 n4 c4 x5 q2 w5, I1 A4 n4 c4 x5 q2 w5 →
 (q2 = true →
 ∀ b3 w6, b3 = w5.heap.size → w6 = w5.alloc (.cells #[.int .i64 x5] 3) →
 ∃ l1 l2 : List Value, (n4 + 1) * 8 ≤ 140737488355328 ∧ l1.length = n4 * 1 ∧ RdS w6 A4 l1 ∧ l2.length = 1 * 1 ∧ RdS w6 (some ⟨b3, 0, none⟩) l2 ∧ One l2 ∧ (n4 + 1 ≤ c4 → Room w6 A4 (n4 * 1) (1 * 1)) ∧
 ∀ A5 c5 w7, Appended w6 3 1 #[.int .i64 0] A4 n4 c4 1 l1 l2 A5 c5 w7 →
 ∃ A6 n5 c6, w7.rangeAt b1 0 ([.slice A6 n5 c6] : List Value) ∧
 Ret Tryz.prog 44 #[.agg #[.slice A6 n5 c6], .int .i64 x5] w7 fun r3 w8 => ∃ x6 x7 q3, r3 = .tuple #[.int .i64 x6, .int .i64 x7, .bool q3] ∧
 I1 A5 (n4 + 1) c5 x6 q3 w8 ∧ μ1 A5 (n4 + 1) c5 x6 q3 w8 < μ1 A4 n4 c4 x5 q2 w5) ∧
 (q2 = false →
 Q (.slice A4 n4 c4) w5))
theorem L_35 (A1 : Option Addr) (n1 c1 : Nat) (x1 : Int) (w : World) (Q : Value → World → Prop) (h : S_35 A1 n1 c1 x1 w Q) : Ret Tryz.prog 35 #[.agg #[.slice A1 n1 c1], .int .i64 x1] w Q := by
 unfold S_35 at h
 refine ret_of_wp Tryz.func35 rfl (wp_seq (qx (qq (qaf (v := .agg #[.slice A1 n1 c1]) rfl ?_))))
 intro b1 w1 e1 e2; replace h := h b1 w1 e1 e2
 refine qbr (qz (wp_seq (wp_seq (qx ?_))))
 obtain ⟨A2, n2, c2, hx, h⟩ := h
 refine qq (qaq (cs := ([.slice A2 n2 c2] : List Value)) rfl Tryz.isAgg32 Tryz.sizeOf32 (by simp []) hx ?_)
 refine qbt 1 (qq (qai (args := #[.agg #[.slice A2 n2 c2], .int .i64 x1]) rfl Tryz.call54 (Ret.mono h ?_)))
 clear h; rintro r1 w2 ⟨x2, rfl, h⟩
 refine qbr (qz (wp_cond_split (t := (x2 != 0)) (by kernel_rfl) (fun hb => ?_) (fun hb => ?_)))
 ·replace h := h.1 (bne_iff_ne.1 hb)
  refine wp_seq (qx (qbr (qz (wp_ret (qs ?_)))))
  exact qbh (v := .slice none 0 0) h
 ·replace h := h.2 (bne_false hb)
  refine wp_skip (qz (wp_seq (qx (qbt 1 (qq (qag (cs := ([.int .i64 x1] : List Value)) rfl Tryz.underlying30 Tryz.sizeOf3 Tryz.zeroValue3 (by kernel_rfl) (by decide) (by decide) ?_))))))
  intro b2 w3 e1 e2; replace h := h b2 w3 e1 e2
  refine qbr (qz (wp_seq (wp_seq (qx ?_))))
  obtain ⟨A3, n3, c3, hx, h⟩ := h
  refine qq (qaq (cs := ([.slice A3 n3 c3] : List Value)) rfl Tryz.isAgg32 Tryz.sizeOf32 (by simp []) hx ?_)
  refine qbt 1 (qq (qai (args := #[.agg #[.slice A3 n3 c3], .int .i64 x1]) rfl Tryz.call44 (Ret.mono h ?_)))
  clear h; rintro r2 w4 ⟨x3, x4, q1, rfl, h⟩
  refine qbr (qz (wp_block ?_))
  obtain ⟨I1, μ1, hI1, hB1⟩ := h
  refine wp_loop_st (σ := (Option Addr) × Nat × Nat × Int × Bool) (fun s a => ∃ u1 : Nat → Value, a = ⟨#[.agg #[.slice A1 n1 c1], .int .i64 x1, .pointer (some ⟨b1, 0, none⟩), undef, .slice none 0 0, .slice s.1 s.2.1 s.2.2.1, .int .i64 s.2.2.2.1, .int .i64 x4, .bool s.2.2.2.2, .agg #[.slice A2 n2 c2], .int .i64 x1, .int .i64 x2, .bool (x2 != 0), .int .i64 x1, .slice (some ⟨b2, 0, none⟩) 1 1, .tuple #[.int .i64 x3, .int .i64 x4, .bool q1], .agg #[.slice A3 n3 c3], .int .i64 x1, .tuple #[.int .i64 x3, .int .i64 x4, .bool q1], .int .i64 x3, .int .i64 x4, .bool q1, u1 22, u1 23, u1 24, u1 25, u1 26, u1 27, u1 28, u1 29, u1 30, u1 31, u1 32, u1 33, undef], []⟩) (fun s w => I1 s.1 s.2.1 s.2.2.1 s.2.2.2.1 s.2.2.2.2 w) (fun s w => μ1 s.1 s.2.1 s.2.2.1 s.2.2.2.1 s.2.2.2.2 w) ((some ⟨b2, 0, none⟩), 1, 1, x3, q1) (qaa) hI1 ?_
  rintro ⟨A4, n4, c4, x5, q2⟩ a w5 ⟨u1, rfl⟩ hI1
  have h := hB1 A4 n4 c4 x5 q2 w5 hI1
  refine wp_seq (wp_seq (qx (qbr (qz (wp_cond_split (t := q2) (by kernel_rfl) (fun hb => ?_) (fun hb => ?_))))))
  ·replace h := h.1 (hb)
   refine wp_skip (qz (wp_seq (wp_block (qx (qbt 2 (qq (qag (cs := ([.int .i64 x5] : List Value)) rfl Tryz.underlying30 Tryz.sizeOf3 Tryz.zeroValue3 (by kernel_rfl) (by decide) (by decide) ?_)))))))
   intro b3 w6 e1 e2; replace h := h b3 w6 e1 e2
   obtain ⟨l1, l2, h1, h2, h3, h4, h5, h6, h7, h⟩ := h
   refine qq (qad (A := A4) (n := n4) (c := c4) (B := (some ⟨b3, 0, none⟩)) (m := 1) (c2 := 1) (olds := l1) (news := l2) rfl Tryz.underlying30 Tryz.underlying30 Tryz.typeInfo3 rfl (by decide) h1 h2 h3 h4 h5 h6 h7 ?_)
   intro A5 c5 w7 e1; replace h := h A5 c5 w7 e1
   refine qbr (qu (qz (qx ?_)))
   obtain ⟨A6, n5, c6, hx, h⟩ := h
   refine qq (qaq (cs := ([.slice A6 n5 c6] : List Value)) rfl Tryz.isAgg32 Tryz.sizeOf32 (by simp []) hx ?_)
   refine qbt 1 (qq (qai (args := #[.agg #[.slice A6 n5 c6], .int .i64 x5]) rfl Tryz.call44 (Ret.mono h ?_)))
   clear h; rintro r3 w8 ⟨x6, x7, q3, rfl, h⟩
   refine qbr (qz ?_)
   exact ⟨(A5, (n4 + 1), c5, x6, q3), qaa, h.1, h.2⟩
  ·replace h := h.2 (hb)
   refine wp_exit (qr (qr (block_exit_eq (qz (wp_seq (qx (qbr (qz (wp_ret ?_)))))))))
   exact qbh (v := .slice A4 n4 c4) h
def S_38 (A1 : Option Addr) (n1 c1 : Nat) (w : World) (Q : Value → World → Prop) : Prop :=
 ∀ b1 w1, b1 = w.heap.size → w1 = w.alloc (.cells #[.slice A1 n1 c1] 32) →
 ∃ A2 n2 c2, w1.cell? ⟨b1, 0, none⟩ = some (.slice A2 n2 c2) ∧
 ((n2 : Int) = 0 →
 Q (.int .i64 0) w1) ∧
 ((n2 : Int) ≠ 0 →
 ∃ A3 n3 c3, w1.cell? ⟨b1, 0, none⟩ = some (.slice A3 n3 c3) ∧
 ∃ b2 o1, A3 = some ⟨b2, o1, none⟩ ∧ (0 : Int) ≤ 1 ∧ 1 < (n3 : Int) ∧
 ∃ x1, w1.cell? ⟨b2, (o1 + 1 * 1), none⟩ = some (.int .i64 x1) ∧
 Q (.int .i64 x1) w1)
theorem L_38 (A1 : Option Addr) (n1 c1 : Nat) (w : World) (Q : Value → World → Prop) (h : S_38 A1 n1 c1 w Q) : Ret Tryz.prog 38 #[.agg #[.slice A1 n1 c1]] w Q := by
 unfold S_38 at h
 refine ret_of_wp Tryz.func38 rfl (wp_seq (qx (qq (qaf (v := .agg #[.slice A1 n1 c1]) rfl ?_))))
 intro b1 w1 e1 e2; replace h := h b1 w1 e1 e2
 refine qbr (qz (wp_seq (wp_seq (qx (qbt 1 ?_)))))
 obtain ⟨A2, n2, c2, hx, h⟩ := h
 refine qq (qap (v := .slice A2 n2 c2) rfl Tryz.isAgg30 hx ?_)
 refine qbr (qz (wp_cond_split (t := ((n2 : Int) == 0)) (by kernel_rfl) (fun hb => ?_) (fun hb => ?_)))
 ·replace h := h.1 (eq_of_beq hb)
  refine wp_seq (qx (qbr (qz (wp_ret (qs ?_)))))
  exact qbh (v := .int .i64 0) h
 ·replace h := h.2 (ne_of_beq_false hb)
  refine wp_skip (qz (wp_seq (qx (qbt 1 ?_))))
  obtain ⟨A3, n3, c3, hx, h⟩ := h
  refine qq (qap (v := .slice A3 n3 c3) rfl Tryz.isAgg30 hx ?_)
  obtain ⟨b2, o1, rfl, h⟩ := h
  obtain ⟨h1, h2, h⟩ := h
  refine qq (qan (k := .i64) (j := 1) (b := b2) (off := o1) (n := n3) (c := c3) rfl Tryz.underlying30 Tryz.sizeOf3 h1 h2 ?_)
  obtain ⟨x1, hx, h⟩ := h
  refine qq (qap (v := .int .i64 x1) rfl Tryz.isAgg3 hx ?_)
  refine qbr (qz (wp_ret ?_))
  exact qbh (v := .int .i64 x1) h
def S_40 (A1 : Option Addr) (n1 c1 : Nat) (x1 : Int) (w : World) (Q : Value → World → Prop) : Prop :=
 ∀ b1 w1, b1 = w.heap.size → w1 = w.alloc (.cells #[.slice A1 n1 c1] 32) →
 ∃ A2 n2 c2, w1.rangeAt b1 0 ([.slice A2 n2 c2] : List Value) ∧
 Ret Tryz.prog 54 #[.agg #[.slice A2 n2 c2], .int .i64 x1] w1 fun r1 w2 => ∃ x2, r1 = .int .i64 x2 ∧
 (x2 < 1 →
 Q (.slice none 0 0) w2) ∧
 (¬ x2 < 1 →
 ∀ w3, w3 = w2.drew →
 ∃ A3 n3 c3, w2.cell? ⟨b1, 0, none⟩ = some (.slice A3 n3 c3) ∧
 ∃ b2 o1, A3 = some ⟨b2, o1, none⟩ ∧ (0 : Int) ≤ (IntKind.i64.wrap (x2 - 1)) ∧ (IntKind.i64.wrap (x2 - 1)) < (n3 : Int) ∧
 ∃ x3, w2.cell? ⟨b2, (o1 + ((IntKind.i64.wrap (x2 - 1))).toNat * 1), none⟩ = some (.int .i64 x3) ∧
 ∃ A4 n4 c4, w2.cell? ⟨b1, 0, none⟩ = some (.slice A4 n4 c4) ∧
 ∃ b3 o2, A4 = some ⟨b3, o2, none⟩ ∧ (0 : Int) ≤ x2 ∧ x2 < (n4 : Int) ∧
 ∃ x4, w2.cell? ⟨b3, (o2 + (x2).toNat * 1), none⟩ = some (.int .i64 x4) ∧
 ∃ (I1 : (Option Addr) → Nat → Nat → Int → World → Prop) (μ1 : (Option Addr) → Nat → Nat → Int → World → Nat), I1 none 0 0 (IntKind.i64.wrap (x3 + (IntKind.i64.wrap (6 * (IntKind.i64.wrap (x1 - x4)))))) w3 ∧
 ∀ A5 n5 c5 x5 w4, I1 A5 n5 c5 x5 w4 →
 ∃ A6 n6 c6, w4.cell? ⟨b1, 0, none⟩ = some (.slice A6 n6 c6) ∧
 ∃ b4 o3, A6 = some ⟨b4, o3, none⟩ ∧ (0 : Int) ≤ x2 ∧ x2 < (n6 : Int) ∧
 ∃ x6, w4.cell? ⟨b4, (o3 + (x2).toNat * 1), none⟩ = some (.int .i64 x6) ∧
 (x5 < (imin (IntKind.i64.wrap ((IntKind.i64.wrap (x3 + (IntKind.i64.wrap (6 * (IntKind.i64.wrap (x1 - x4)))))) + 6)) x6) →
 ∀ b5 w5, b5 = w4.heap.size → w5 = w4.alloc (.cells #[.int .i64 x5] 3) →
 ∃ l1 l2 : List Value, (n5 + 1) * 8 ≤ 140737488355328 ∧ l1.length = n5 * 1 ∧ RdS w5 A5 l1 ∧ l2.length = 1 * 1 ∧ RdS w5 (some ⟨b5, 0, none⟩) l2 ∧ One l2 ∧ (n5 + 1 ≤ c5 → Room w5 A5 (n5 * 1) (1 * 1)) ∧
 ∀ A7 c7 w6, Appended w5 3 1 #[.int .i64 0] A5 n5 c5 1 l1 l2 A7 c7 w6 →
 I1 A7 (n5 + 1) c7 (IntKind.i64.wrap (x5 + 1)) w6 ∧ μ1 A7 (n5 + 1) c7 (IntKind.i64.wrap (x5 + 1)) w6 < μ1 A5 n5 c5 x5 w4) ∧
 (¬ x5 < (imin (IntKind.i64.wrap ((IntKind.i64.wrap (x3 + (IntKind.i64.wrap (6 * (IntKind.i64.wrap (x1 - x4)))))) + 6)) x6) →
 Q (.slice A5 n5 c5) w4))
theorem L_40 (A1 : Option Addr) (n1 c1 : Nat) (x1 : Int) (w : World) (Q : Value → World → Prop) (h : S_40 A1 n1 c1 x1 w Q) : Ret Tryz.prog 40 #[.agg #[.slice A1 n1 c1], .int .i64 x1] w Q := by
 unfold S_40 at h
 refine ret_of_wp Tryz.func40 rfl (wp_seq (qx (qq (qaf (v := .agg #[.slice A1 n1 c1]) rfl ?_))))
 intro b1 w1 e1 e2; replace h := h b1 w1 e1 e2
 refine qbr (qz (wp_seq (qx ?_)))
 obtain ⟨A2, n2, c2, hx, h⟩ := h
 refine qq (qaq (cs := ([.slice A2 n2 c2] : List Value)) rfl Tryz.isAgg32 Tryz.sizeOf32 (by simp []) hx ?_)
 refine qbt 1 (qq (qai (args := #[.agg #[.slice A2 n2 c2], .int .i64 x1]) rfl Tryz.call54 (Ret.mono h ?_)))
 clear h; rintro r1 w2 ⟨x2, rfl, h⟩
 refine qbr (qz (wp_seq (wp_seq (qx (qbr (qz (wp_cond_split (t := (decide (x2 < 1))) (by kernel_rfl) (fun hb => ?_) (fun hb => ?_))))))))
 ·replace h := h.1 (of_decide_eq_true hb)
  refine wp_seq (qx (qbr (qz (wp_ret (qs ?_)))))
  exact qbh (v := .slice none 0 0) h
 ·replace h := h.2 (of_decide_eq_false hb)
  refine wp_skip (qz (wp_seq (qbj (Keep w2) [] ?_)))
  intro w3 e1; have hK1 := keep_drew e1; replace h := h w3 e1
  refine qbo 0 rfl (qbz (v := .pointer (some ⟨b1, 0, none⟩))) ?_
  obtain ⟨A3, n3, c3, hx, h⟩ := h
  refine qbn 1 rfl (qbw (v := .slice A3 n3 c3) rfl Tryz.isAgg30 (fun _ hk => keep_cell hk hx)) hK1 ?_
  refine qbo 2 rfl (qbz (v := .int .i64 x2)) (qbo 3 rfl (qbz (v := .int .i64 (IntKind.i64.wrap (x2 - 1)))) ?_)
  obtain ⟨b2, o1, rfl, h⟩ := h
  obtain ⟨h1, h2, h⟩ := h
  refine qbo 4 rfl (qbu (k := .i64) (j := (IntKind.i64.wrap (x2 - 1))) (b := b2) (off := o1) (n := n3) (c := c3) rfl Tryz.underlying30 Tryz.sizeOf3 h1 h2) ?_
  obtain ⟨x3, hx, h⟩ := h
  refine qbn 5 rfl (qbw (v := .int .i64 x3) rfl Tryz.isAgg3 (fun _ hk => keep_cell hk hx)) hK1 ?_
  refine qbo 6 rfl (qbz (v := .int .i64 x1)) (qbo 7 rfl (qbz (v := .pointer (some ⟨b1, 0, none⟩))) ?_)
  obtain ⟨A4, n4, c4, hx, h⟩ := h
  refine qbn 8 rfl (qbw (v := .slice A4 n4 c4) rfl Tryz.isAgg30 (fun _ hk => keep_cell hk hx)) hK1 ?_
  refine qbo 9 rfl (qbz (v := .int .i64 x2)) ?_
  obtain ⟨b3, o2, rfl, h⟩ := h
  obtain ⟨h1, h2, h⟩ := h
  refine qbo 10 rfl (qbu (k := .i64) (j := x2) (b := b3) (off := o2) (n := n4) (c := c4) rfl Tryz.underlying30 Tryz.sizeOf3 h1 h2) ?_
  obtain ⟨x4, hx, h⟩ := h
  refine qbn 11 rfl (qbw (v := .int .i64 x4) rfl Tryz.isAgg3 (fun _ hk => keep_cell hk hx)) hK1 ?_
  refine qbo 12 rfl (qbz (v := .int .i64 (IntKind.i64.wrap (x1 - x4)))) (qbo 13 rfl (qbz (v := .int .i64 (IntKind.i64.wrap (6 * (IntKind.i64.wrap (x1 - x4)))))) (qbo 14 rfl (qbz (v := .int .i64 (IntKind.i64.wrap (x3 + (IntKind.i64.wrap (6 * (IntKind.i64.wrap (x1 - x4)))))))) (qbo 15 rfl (qbz (v := .int .i64 (IntKind.i64.wrap (x3 + (IntKind.i64.wrap (6 * (IntKind.i64.wrap (x1 - x4)))))))) (qbk (qz (wp_seq (qx (qbr (qz (wp_seq (wp_seq (qx (qbr (qz (wp_block ?_)))))))))))))))
  obtain ⟨I1, μ1, hI1, hB1⟩ := h
  refine wp_loop_st (σ := (Option Addr) × Nat × Nat × Int) (fun s a => ∃ u1 : Nat → Value, a = ⟨#[.agg #[.slice A1 n1 c1], .int .i64 x1, .pointer (some ⟨b1, 0, none⟩), undef, .slice none 0 0, .int .i64 x2, .int .i64 (IntKind.i64.wrap (x3 + (IntKind.i64.wrap (6 * (IntKind.i64.wrap (x1 - x4)))))), .slice s.1 s.2.1 s.2.2.1, .int .i64 s.2.2.2, .agg #[.slice A2 n2 c2], .int .i64 x1, .int .i64 x2, .int .i64 x2, .bool (decide (x2 < 1)), .pointer (some ⟨b1, 0, none⟩), .slice (some ⟨b2, o1, none⟩) n3 c3, .int .i64 x2, .int .i64 (IntKind.i64.wrap (x2 - 1)), .pointer (some ⟨b2, (o1 + ((IntKind.i64.wrap (x2 - 1))).toNat * 1), none⟩), .int .i64 x3, .int .i64 x1, .pointer (some ⟨b1, 0, none⟩), .slice (some ⟨b3, o2, none⟩) n4 c4, .int .i64 x2, .pointer (some ⟨b3, (o2 + (x2).toNat * 1), none⟩), .int .i64 x4, .int .i64 (IntKind.i64.wrap (x1 - x4)), .int .i64 (IntKind.i64.wrap (6 * (IntKind.i64.wrap (x1 - x4)))), .int .i64 (IntKind.i64.wrap (x3 + (IntKind.i64.wrap (6 * (IntKind.i64.wrap (x1 - x4)))))), .int .i64 (IntKind.i64.wrap (x3 + (IntKind.i64.wrap (6 * (IntKind.i64.wrap (x1 - x4)))))), u1 30, u1 31, u1 32, u1 33, u1 34, u1 35, u1 36, u1 37, u1 38, u1 39, u1 40, u1 41, u1 42, u1 43, u1 44, u1 45, undef], []⟩) (fun s w => I1 s.1 s.2.1 s.2.2.1 s.2.2.2 w) (fun s w => μ1 s.1 s.2.1 s.2.2.1 s.2.2.2 w) (none, 0, 0, (IntKind.i64.wrap (x3 + (IntKind.i64.wrap (6 * (IntKind.i64.wrap (x1 - x4))))))) (qaa) hI1 ?_
  rintro ⟨A5, n5, c5, x5⟩ a w4 ⟨u1, rfl⟩ hI1
  have h := hB1 A5 n5 c5 x5 w4 hI1
  refine wp_seq (wp_seq (qx (qbt 4 ?_)))
  obtain ⟨A6, n6, c6, hx, h⟩ := h
  refine qq (qap (v := .slice A6 n6 c6) rfl Tryz.isAgg30 hx ?_)
  refine qbt 1 ?_
  obtain ⟨b4, o3, rfl, h⟩ := h
  obtain ⟨h1, h2, h⟩ := h
  refine qq (qan (k := .i64) (j := x2) (b := b4) (off := o3) (n := n6) (c := c6) rfl Tryz.underlying30 Tryz.sizeOf3 h1 h2 ?_)
  obtain ⟨x6, hx, h⟩ := h
  refine qq (qap (v := .int .i64 x6) rfl Tryz.isAgg3 hx ?_)
  refine qbr (qz (wp_cond_split (t := (decide (x5 < (imin (IntKind.i64.wrap ((IntKind.i64.wrap (x3 + (IntKind.i64.wrap (6 * (IntKind.i64.wrap (x1 - x4)))))) + 6)) x6)))) (by kernel_rfl) (fun hb => ?_) (fun hb => ?_)))
  ·replace h := h.1 (of_decide_eq_true hb)
   refine wp_skip (qz (wp_seq (wp_block (qx (qbt 2 (qq (qag (cs := ([.int .i64 x5] : List Value)) rfl Tryz.underlying30 Tryz.sizeOf3 Tryz.zeroValue3 (by kernel_rfl) (by decide) (by decide) ?_)))))))
   intro b5 w5 e1 e2; replace h := h b5 w5 e1 e2
   obtain ⟨l1, l2, h1, h2, h3, h4, h5, h6, h7, h⟩ := h
   refine qq (qad (A := A5) (n := n5) (c := c5) (B := (some ⟨b5, 0, none⟩)) (m := 1) (c2 := 1) (olds := l1) (news := l2) rfl Tryz.underlying30 Tryz.underlying30 Tryz.typeInfo3 rfl (by decide) h1 h2 h3 h4 h5 h6 h7 ?_)
   intro A7 c7 w6 e1; replace h := h A7 c7 w6 e1
   refine qbr (qu (qz (qx (qbr (qz ?_)))))
   exact ⟨(A7, (n5 + 1), c7, (IntKind.i64.wrap (x5 + 1))), qaa, h.1, h.2⟩
  ·replace h := h.2 (of_decide_eq_false hb)
   refine wp_exit (qr (qr (block_exit_eq (qz (wp_seq (qx (qbr (qz (wp_ret ?_)))))))))
   exact qbh (v := .slice A5 n5 c5) h
def S_44 (A1 : Option Addr) (n1 c1 : Nat) (x1 : Int) (w : World) (Q : Value → World → Prop) : Prop :=
 ∀ b1 w1, b1 = w.heap.size → w1 = w.alloc (.cells #[.slice A1 n1 c1] 32) →
 ∃ A2 n2 c2, w1.rangeAt b1 0 ([.slice A2 n2 c2] : List Value) ∧
 Ret Tryz.prog 54 #[.agg #[.slice A2 n2 c2], .int .i64 x1] w1 fun r1 w2 => ∃ x2, r1 = .int .i64 x2 ∧
 (x2 < 0 →
 Q (.tuple #[.int .i64 0, .int .i64 0, .bool false]) w2) ∧
 (¬ x2 < 0 →
 ∃ A3 n3 c3, w2.rangeAt b1 0 ([.slice A3 n3 c3] : List Value) ∧
 Ret Tryz.prog 59 #[.agg #[.slice A3 n3 c3]] w2 fun r2 w3 => ∃ x3, r2 = .int .i64 x3 ∧
 (x1 = x3 →
 Q (.tuple #[.int .i64 0, .int .i64 0, .bool false]) w3) ∧
 (x1 ≠ x3 →
 ∃ A4 n4 c4, w3.cell? ⟨b1, 0, none⟩ = some (.slice A4 n4 c4) ∧
 ∃ b2 o1, A4 = some ⟨b2, o1, none⟩ ∧ (0 : Int) ≤ x2 ∧ x2 < (n4 : Int) ∧
 ∃ x4, w3.cell? ⟨b2, (o1 + (x2).toNat * 1), none⟩ = some (.int .i64 x4) ∧
 ∃ A5 n5 c5, w3.cell? ⟨b1, 0, none⟩ = some (.slice A5 n5 c5) ∧
 ∃ b3 o2, A5 = some ⟨b3, o2, none⟩ ∧ (0 : Int) ≤ (IntKind.i64.wrap (x2 + 1)) ∧ (IntKind.i64.wrap (x2 + 1)) < (n5 : Int) ∧
 ∃ x5, w3.cell? ⟨b3, (o2 + ((IntKind.i64.wrap (x2 + 1))).toNat * 1), none⟩ = some (.int .i64 x5) ∧
 Q (.tuple #[.int .i64 (IntKind.i64.wrap (x5 + (IntKind.i64.wrap ((IntKind.i64.wrap (x1 - x4)).tdiv 6)))), .int .i64 ((IntKind.i64.wrap (x1 - x4)).tmod 6), .bool true]) w3))
theorem L_44 (A1 : Option Addr) (n1 c1 : Nat) (x1 : Int) (w : World) (Q : Value → World → Prop) (h : S_44 A1 n1 c1 x1 w Q) : Ret Tryz.prog 44 #[.agg #[.slice A1 n1 c1], .int .i64 x1] w Q := by
 unfold S_44 at h
 refine ret_of_wp Tryz.func44 rfl (wp_seq (qx (qq (qaf (v := .agg #[.slice A1 n1 c1]) rfl ?_))))
 intro b1 w1 e1 e2; replace h := h b1 w1 e1 e2
 refine qbr (qz (wp_seq (qx ?_)))
 obtain ⟨A2, n2, c2, hx, h⟩ := h
 refine qq (qaq (cs := ([.slice A2 n2 c2] : List Value)) rfl Tryz.isAgg32 Tryz.sizeOf32 (by simp []) hx ?_)
 refine qbt 1 (qq (qai (args := #[.agg #[.slice A2 n2 c2], .int .i64 x1]) rfl Tryz.call54 (Ret.mono h ?_)))
 clear h; rintro r1 w2 ⟨x2, rfl, h⟩
 refine qbr (qz (wp_seq (wp_seq (qx (qbt 3 (wl_split (e := (decide (x2 < 0))) ?_ ?_))))))
 ·intro hb; refine qbs 14 (e := (decide (x2 < 0))) (b := true) hb ?_
  replace h := h.1 (of_decide_eq_true hb)
  refine qbr (qz (wp_cond_true (by kernel_rfl) (wp_seq (qx (qbr (qz (wp_ret (qs ?_))))))))
  exact qbh (v := .tuple #[.int .i64 0, .int .i64 0, .bool false]) h
 ·intro hb; refine qbs 14 (e := (decide (x2 < 0))) (b := false) hb ?_
  replace h := h.2 (of_decide_eq_false hb)
  refine qbt 1 ?_
  obtain ⟨A3, n3, c3, hx, h⟩ := h
  refine qq (qaq (cs := ([.slice A3 n3 c3] : List Value)) rfl Tryz.isAgg32 Tryz.sizeOf32 (by simp []) hx ?_)
  refine qq (qai (args := #[.agg #[.slice A3 n3 c3]]) rfl Tryz.call59 (Ret.mono h ?_))
  clear h; rintro r2 w3 ⟨x3, rfl, h⟩
  refine qbr (qz (wp_cond_split (t := (x1 == x3)) (by kernel_rfl) (fun hb => ?_) (fun hb => ?_)))
  ·replace h := h.1 (eq_of_beq hb)
   refine wp_seq (qx (qbr (qz (wp_ret (qs ?_)))))
   exact qbh (v := .tuple #[.int .i64 0, .int .i64 0, .bool false]) h
  ·replace h := h.2 (ne_of_beq_false hb)
   refine wp_skip (qz (wp_seq (qx (qbt 2 ?_))))
   obtain ⟨A4, n4, c4, hx, h⟩ := h
   refine qq (qap (v := .slice A4 n4 c4) rfl Tryz.isAgg30 hx ?_)
   refine qbt 1 ?_
   obtain ⟨b2, o1, rfl, h⟩ := h
   obtain ⟨h1, h2, h⟩ := h
   refine qq (qan (k := .i64) (j := x2) (b := b2) (off := o1) (n := n4) (c := c4) rfl Tryz.underlying30 Tryz.sizeOf3 h1 h2 ?_)
   obtain ⟨x4, hx, h⟩ := h
   refine qq (qap (v := .int .i64 x4) rfl Tryz.isAgg3 hx ?_)
   refine qbr (qz (wp_seq (qx (qbt 1 ?_))))
   obtain ⟨A5, n5, c5, hx, h⟩ := h
   refine qq (qap (v := .slice A5 n5 c5) rfl Tryz.isAgg30 hx ?_)
   refine qbt 2 ?_
   obtain ⟨b3, o2, rfl, h⟩ := h
   obtain ⟨h1, h2, h⟩ := h
   refine qq (qan (k := .i64) (j := (IntKind.i64.wrap (x2 + 1))) (b := b3) (off := o2) (n := n5) (c := c5) rfl Tryz.underlying30 Tryz.sizeOf3 h1 h2 ?_)
   obtain ⟨x5, hx, h⟩ := h
   refine qq (qap (v := .int .i64 x5) rfl Tryz.isAgg3 hx ?_)
   refine qbr (qz (wp_ret ?_))
   exact qbh (v := .tuple #[.int .i64 (IntKind.i64.wrap (x5 + (IntKind.i64.wrap ((IntKind.i64.wrap (x1 - x4)).tdiv 6)))), .int .i64 ((IntKind.i64.wrap (x1 - x4)).tmod 6), .bool true]) h
def S_45 (A1 : Option Addr) (n1 c1 : Nat) (x1 x2 : Int) (w : World) (Q : Value → World → Prop) : Prop :=
 ∀ b1 w1, b1 = w.heap.size → w1 = w.alloc (.cells #[.slice A1 n1 c1] 32) →
 ∃ A2 n2 c2, w1.rangeAt b1 0 ([.slice A2 n2 c2] : List Value) ∧
 Ret Tryz.prog 54 #[.agg #[.slice A2 n2 c2], .int .i64 x1] w1 fun r1 w2 => ∃ x3, r1 = .int .i64 x3 ∧
 (x3 < 0 →
 Q (.int .i64 (-1)) w2) ∧
 (¬ x3 < 0 →
 (x2 < 0 →
 Q (.int .i64 (-1)) w2) ∧
 (¬ x2 < 0 →
 (x2 > 1 →
 Q (.int .i64 (-1)) w2) ∧
 (¬ x2 > 1 →
 Q (.int .i64 (IntKind.i64.wrap ((IntKind.i64.wrap (2 + (IntKind.i64.wrap (2 * x1)))) + x2))) w2)))
theorem L_45 (A1 : Option Addr) (n1 c1 : Nat) (x1 x2 : Int) (w : World) (Q : Value → World → Prop) (h : S_45 A1 n1 c1 x1 x2 w Q) : Ret Tryz.prog 45 #[.agg #[.slice A1 n1 c1], .int .i64 x1, .int .i64 x2] w Q := by
 unfold S_45 at h
 refine ret_of_wp Tryz.func45 rfl (wp_seq (qx (qq (qaf (v := .agg #[.slice A1 n1 c1]) rfl ?_))))
 intro b1 w1 e1 e2; replace h := h b1 w1 e1 e2
 refine qbr (qz (wp_seq (wp_seq (qx ?_))))
 obtain ⟨A2, n2, c2, hx, h⟩ := h
 refine qq (qaq (cs := ([.slice A2 n2 c2] : List Value)) rfl Tryz.isAgg32 Tryz.sizeOf32 (by simp []) hx ?_)
 refine qbt 1 (qq (qai (args := #[.agg #[.slice A2 n2 c2], .int .i64 x1]) rfl Tryz.call54 (Ret.mono h ?_)))
 clear h; rintro r1 w2 ⟨x3, rfl, h⟩
 refine qbt 2 (wl_split (e := (decide (x3 < 0))) ?_ ?_)
 ·intro hb; refine qbs 11 (e := (decide (x3 < 0))) (b := true) hb ?_
  replace h := h.1 (of_decide_eq_true hb)
  refine qbr (qz (wp_cond_true (by kernel_rfl) (wp_seq (qx (qbr (qz (wp_ret (qs ?_))))))))
  exact qbh (v := .int .i64 (-1)) h
 ·intro hb; refine qbs 11 (e := (decide (x3 < 0))) (b := false) hb ?_
  replace h := h.2 (of_decide_eq_false hb)
  refine qbt 4 (wl_split (e := (decide (x2 < 0))) ?_ ?_)
  ·intro hb; refine qbs 15 (e := (decide (x2 < 0))) (b := true) hb ?_
   replace h := h.1 (of_decide_eq_true hb)
   refine qbr (qz (wp_cond_true (by kernel_rfl) (wp_seq (qx (qbr (qz (wp_ret (qs ?_))))))))
   exact qbh (v := .int .i64 (-1)) h
  ·intro hb; refine qbs 15 (e := (decide (x2 < 0))) (b := false) hb ?_
   replace h := h.2 (of_decide_eq_false hb)
   refine qbr (qz (wp_cond_split (t := (decide (x2 > 1))) (by kernel_rfl) (fun hb => ?_) (fun hb => ?_)))
   ·replace h := h.1 (of_decide_eq_true hb)
    refine wp_seq (qx (qbr (qz (wp_ret (qs ?_)))))
    exact qbh (v := .int .i64 (-1)) h
   ·replace h := h.2 (of_decide_eq_false hb)
    refine wp_skip (qz (wp_seq (qx (qbr (qz (wp_ret ?_))))))
    exact qbh (v := .int .i64 (IntKind.i64.wrap ((IntKind.i64.wrap (2 + (IntKind.i64.wrap (2 * x1)))) + x2))) h
def S_49 (x1 : Int) (A1 : Option Addr) (n1 c1 : Nat) (A2 : Option Addr) (n2 c2 : Nat) (x2 : Int) (w : World) (Q : Value → World → Prop) : Prop :=
 ∀ b1 w1, b1 = w.heap.size → w1 = w.alloc (.cells #[.int .i64 x1, .slice A1 n1 c1, .slice A2 n2 c2] 37) →
 (x2 < 0 →
 Q (.slice none 0 0) w1) ∧
 (¬ x2 < 0 →
 ∃ x3, w1.cell? ⟨b1, 0, none⟩ = some (.int .i64 x3) ∧
 (x2 ≥ x3 →
 Q (.slice none 0 0) w1) ∧
 (¬ x2 ≥ x3 →
 ∀ b2 w2, b2 = w1.heap.size → w2 = w1.alloc (.cells #[.int .i64 x2] 3) →
 ∃ (I1 : (Option Addr) → Nat → Nat → Int → World → Prop) (μ1 : (Option Addr) → Nat → Nat → Int → World → Nat), I1 (some ⟨b2, 0, none⟩) 1 1 0 w2 ∧
 ∀ A3 n3 c3 x4 w3, I1 A3 n3 c3 x4 w3 →
 (x4 < 10 →
 ∀ w4, w4 = w3.drew →
 ∃ x5 A4 n4 c4 A5 n5 c5, w3.rangeAt b1 0 ([.int .i64 x5, .slice A4 n4 c4, .slice A5 n5 c5] : List Value) ∧
 ∃ b3 o1, A3 = some ⟨b3, o1, none⟩ ∧ (0 : Int) ≤ (IntKind.i64.wrap ((n3 : Int) - 1)) ∧ (IntKind.i64.wrap ((n3 : Int) - 1)) < (n3 : Int) ∧
 ∃ x6, w3.cell? ⟨b3, (o1 + ((IntKind.i64.wrap ((n3 : Int) - 1))).toNat * 1), none⟩ = some (.int .i64 x6) ∧
 Ret Tryz.prog 31 #[.agg #[.int .i64 x5, .slice A4 n4 c4, .slice A5 n5 c5], .int .i64 x6] w4 fun r1 w5 => ∃ x7 x8 q1, r1 = .tuple #[.int .i64 x7, .int .i64 x8, .bool q1] ∧
 (q1 = false →
 Q (.slice (some ⟨b3, o1, none⟩) n3 c3) w5) ∧
 (q1 = true →
 ∀ b4 w6, b4 = w5.heap.size → w6 = w5.alloc (.cells #[.int .i64 x7] 3) →
 ∃ l1 l2 : List Value, (n3 + 1) * 8 ≤ 140737488355328 ∧ l1.length = n3 * 1 ∧ RdS w6 (some ⟨b3, o1, none⟩) l1 ∧ l2.length = 1 * 1 ∧ RdS w6 (some ⟨b4, 0, none⟩) l2 ∧ One l2 ∧ (n3 + 1 ≤ c3 → Room w6 (some ⟨b3, o1, none⟩) (n3 * 1) (1 * 1)) ∧
 ∀ A6 c6 w7, Appended w6 3 1 #[.int .i64 0] (some ⟨b3, o1, none⟩) n3 c3 1 l1 l2 A6 c6 w7 →
 I1 A6 (n3 + 1) c6 (IntKind.i64.wrap (x4 + 1)) w7 ∧ μ1 A6 (n3 + 1) c6 (IntKind.i64.wrap (x4 + 1)) w7 < μ1 A3 n3 c3 x4 w3)) ∧
 (¬ x4 < 10 →
 Q (.slice A3 n3 c3) w3)))
theorem L_49 (x1 : Int) (A1 : Option Addr) (n1 c1 : Nat) (A2 : Option Addr) (n2 c2 : Nat) (x2 : Int) (w : World) (Q : Value → World → Prop) (h : S_49 x1 A1 n1 c1 A2 n2 c2 x2 w Q) : Ret Tryz.prog 49 #[.agg #[.int .i64 x1, .slice A1 n1 c1, .slice A2 n2 c2], .int .i64 x2] w Q := by
 unfold S_49 at h
 refine ret_of_wp Tryz.func49 rfl (wp_seq (qx (qq (qaf (v := .agg #[.int .i64 x1, .slice A1 n1 c1, .slice A2 n2 c2]) rfl ?_))))
 intro b1 w1 e1 e2; replace h := h b1 w1 e1 e2
 refine qbr (qz (wp_seq (wp_seq (qx (qbt 3 (wl_split (e := (decide (x2 < 0))) ?_ ?_))))))
 ·intro hb; refine qbs 12 (e := (decide (x2 < 0))) (b := true) hb ?_
  replace h := h.1 (of_decide_eq_true hb)
  refine qbr (qz (wp_cond_true (by kernel_rfl) (wp_seq (qx (qbr (qz (wp_ret (qs ?_))))))))
  exact qbh (v := .slice none 0 0) h
 ·intro hb; refine qbs 12 (e := (decide (x2 < 0))) (b := false) hb ?_
  replace h := h.2 (of_decide_eq_false hb)
  refine qbt 2 ?_
  obtain ⟨x3, hx, h⟩ := h
  refine qq (qap (v := .int .i64 x3) rfl Tryz.isAgg3 hx ?_)
  refine qbr (qz (wp_cond_split (t := (decide (x2 ≥ x3))) (by kernel_rfl) (fun hb => ?_) (fun hb => ?_)))
  ·replace h := h.1 (of_decide_eq_true hb)
   refine wp_seq (qx (qbr (qz (wp_ret (qs ?_)))))
   exact qbh (v := .slice none 0 0) h
  ·replace h := h.2 (of_decide_eq_false hb)
   refine wp_skip (qz (wp_seq (qx (qbt 1 (qq (qag (cs := ([.int .i64 x2] : List Value)) rfl Tryz.underlying30 Tryz.sizeOf3 Tryz.zeroValue3 (by kernel_rfl) (by decide) (by decide) ?_))))))
   intro b2 w2 e1 e2; replace h := h b2 w2 e1 e2
   refine qbr (qz (wp_seq (wp_seq (qx (qbr (qz (wp_block ?_)))))))
   obtain ⟨I1, μ1, hI1, hB1⟩ := h
   refine wp_loop_st (σ := (Option Addr) × Nat × Nat × Int) (fun s a => ∃ u1 : Nat → Value, a = ⟨#[.agg #[.int .i64 x1, .slice A1 n1 c1, .slice A2 n2 c2], .int .i64 x2, .pointer (some ⟨b1, 0, none⟩), undef, u1 4, .slice s.1 s.2.1 s.2.2.1, .int .i64 s.2.2.2, u1 7, u1 8, u1 9, .int .i64 x2, .bool (decide (x2 < 0)), .bool false, .int .i64 x2, .pointer (some ⟨b1, 0, none⟩), .int .i64 x3, .bool (decide (x2 ≥ x3)), .bool (decide (x2 ≥ x3)), .int .i64 x2, .slice (some ⟨b2, 0, none⟩) 1 1, u1 20, u1 21, u1 22, u1 23, u1 24, u1 25, u1 26, u1 27, u1 28, u1 29, u1 30, u1 31, u1 32, u1 33, u1 34, u1 35, u1 36, u1 37, u1 38, u1 39, u1 40, u1 41, u1 42, undef], []⟩) (fun s w => I1 s.1 s.2.1 s.2.2.1 s.2.2.2 w) (fun s w => μ1 s.1 s.2.1 s.2.2.1 s.2.2.2 w) ((some ⟨b2, 0, none⟩), 1, 1, 0) (qaa) hI1 ?_
   rintro ⟨A3, n3, c3, x4⟩ a w3 ⟨u1, rfl⟩ hI1
   have h := hB1 A3 n3 c3 x4 w3 hI1
   refine wp_seq (wp_seq (qx (qbr (qz (wp_cond_split (t := (decide (x4 < 10))) (by kernel_rfl) (fun hb => ?_) (fun hb => ?_))))))
   ·replace h := h.1 (of_decide_eq_true hb)
    refine wp_skip (qz (wp_seq (wp_block (wp_seq (qbj (Keep w3) [7] ?_)))))
    intro w4 e1; have hK1 := keep_drew e1; replace h := h w4 e1
    obtain ⟨x5, A4, n4, c4, A5, n5, c5, hx, h⟩ := h
    refine qbn 0 rfl (qbx (cs := ([.int .i64 x5, .slice A4 n4 c4, .slice A5 n5 c5] : List Value)) rfl Tryz.isAgg37 Tryz.sizeOf37 (by simp []) (fun _ hk => keep_range hk hx)) hK1 ?_
    refine qbo 1 rfl (qbz (v := .slice A3 n3 c3)) (qbo 2 rfl (qbz (v := .slice A3 n3 c3)) (qbo 3 rfl (qbz (v := .int .i64 (n3 : Int))) (qbo 4 rfl (qbz (v := .int .i64 (IntKind.i64.wrap ((n3 : Int) - 1)))) ?_)))
    obtain ⟨b3, o1, rfl, h⟩ := h
    obtain ⟨h1, h2, h⟩ := h
    refine qbo 5 rfl (qbu (k := .i64) (j := (IntKind.i64.wrap ((n3 : Int) - 1))) (b := b3) (off := o1) (n := n3) (c := c3) rfl Tryz.underlying30 Tryz.sizeOf3 h1 h2) ?_
    obtain ⟨x6, hx, h⟩ := h
    refine qbn 6 rfl (qbw (v := .int .i64 x6) rfl Tryz.isAgg3 (fun _ hk => keep_cell hk hx)) hK1 ?_
    refine qbm 7 rfl (qai (args := #[.agg #[.int .i64 x5, .slice A4 n4 c4, .slice A5 n5 c5], .int .i64 x6]) rfl Tryz.call31 (Ret.mono h ?_))
    clear h; rintro r1 w5 ⟨x7, x8, q1, rfl, h⟩
    refine ⟨fun hh => absurd hh (by decide), ?_⟩
    refine qbo 8 rfl (qbz (v := .tuple #[.int .i64 x7, .int .i64 x8, .bool q1])) (qbo 9 rfl (qbz (v := .int .i64 x7)) (qbo 10 rfl (qbz (v := .int .i64 x8)) (qbo 11 rfl (qbz (v := .bool q1)) (qbo 12 rfl (qbz (v := .int .i64 x7)) (qbo 13 rfl (qbz (v := .int .i64 x8)) (qbo 14 rfl (qbz (v := .bool q1)) (qbk (qz (wp_seq (wp_seq (qx (qbr (qz (wp_cond_split (t := (!q1)) (by kernel_rfl) (fun hb => ?_) (fun hb => ?_)))))))))))))))
    ·replace h := h.1 ((not_flip hb))
     refine wp_seq (qx (qbr (qz (wp_ret (qs (block_ret (qs (qs (block_ret (qs ?_))))))))))
     exact qbh (v := .slice (some ⟨b3, o1, none⟩) n3 c3) h
    ·replace h := h.2 ((not_flip hb))
     refine wp_skip (qz (qx (qbt 2 (qq (qag (cs := ([.int .i64 x7] : List Value)) rfl Tryz.underlying30 Tryz.sizeOf3 Tryz.zeroValue3 (by kernel_rfl) (by decide) (by decide) ?_)))))
     intro b4 w6 e1 e2; replace h := h b4 w6 e1 e2
     obtain ⟨l1, l2, h1, h2, h3, h4, h5, h6, h7, h⟩ := h
     refine qq (qad (A := (some ⟨b3, o1, none⟩)) (n := n3) (c := c3) (B := (some ⟨b4, 0, none⟩)) (m := 1) (c2 := 1) (olds := l1) (news := l2) rfl Tryz.underlying30 Tryz.underlying30 Tryz.typeInfo3 rfl (by decide) h1 h2 h3 h4 h5 h6 h7 ?_)
     intro A6 c6 w7 e1; replace h := h A6 c6 w7 e1
     refine qbr (qu (qz (qx (qbr (qz ?_)))))
     exact ⟨(A6, (n3 + 1), c6, (IntKind.i64.wrap (x4 + 1))), qaa, h.1, h.2⟩
   ·replace h := h.2 (of_decide_eq_false hb)
    refine wp_exit (qr (qr (block_exit_eq (qz (wp_seq (qx (qbr (qz (wp_ret ?_)))))))))
    exact qbh (v := .slice A3 n3 c3) h
def S_50 (x1 : Int) (A1 : Option Addr) (n1 c1 : Nat) (A2 : Option Addr) (n2 c2 : Nat) (x2 : Int) (w : World) (Q : Value → World → Prop) : Prop :=
 ∀ b1 w1, b1 = w.heap.size → w1 = w.alloc (.cells #[.int .i64 x1, .slice A1 n1 c1, .slice A2 n2 c2] 37) →
 (x2 ≥ 0 →
 ∃ A3 n3 c3, w1.cell? ⟨b1, 1, none⟩ = some (.slice A3 n3 c3) ∧
 Q (.bool (decide (x2 < (n3 : Int)))) w1) ∧
 (¬ x2 ≥ 0 →
 Q (.bool false) w1)
theorem L_50 (x1 : Int) (A1 : Option Addr) (n1 c1 : Nat) (A2 : Option Addr) (n2 c2 : Nat) (x2 : Int) (w : World) (Q : Value → World → Prop) (h : S_50 x1 A1 n1 c1 A2 n2 c2 x2 w Q) : Ret Tryz.prog 50 #[.agg #[.int .i64 x1, .slice A1 n1 c1, .slice A2 n2 c2], .int .i64 x2] w Q := by
 unfold S_50 at h
 refine ret_of_wp Tryz.func50 rfl (wp_seq (qx (qq (qaf (v := .agg #[.int .i64 x1, .slice A1 n1 c1, .slice A2 n2 c2]) rfl ?_))))
 intro b1 w1 e1 e2; replace h := h b1 w1 e1 e2
 refine qbr (qz (wp_seq (qx (qbt 3 (wl_split (e := (decide (x2 ≥ 0))) ?_ ?_)))))
 ·intro hb; refine qbs 7 (e := (decide (x2 ≥ 0))) (b := true) hb ?_
  replace h := h.1 (of_decide_eq_true hb)
  refine qbt 2 ?_
  obtain ⟨A3, n3, c3, hx, h⟩ := h
  refine qq (qap (v := .slice A3 n3 c3) rfl Tryz.isAgg30 hx ?_)
  refine qbr (qz (wp_ret ?_))
  exact qbh (v := .bool (decide (x2 < (n3 : Int)))) h
 ·intro hb; refine qbs 7 (e := (decide (x2 ≥ 0))) (b := false) hb ?_
  replace h := h.2 (of_decide_eq_false hb)
  refine qbr (qz (wp_ret ?_))
  exact qbh (v := .bool false) h
def S_54 (A1 : Option Addr) (n1 c1 : Nat) (x1 : Int) (w : World) (Q : Value → World → Prop) : Prop :=
 ∀ b1 w1, b1 = w.heap.size → w1 = w.alloc (.cells #[.slice A1 n1 c1] 32) →
 (x1 < 0 →
 Q (.int .i64 (-1)) w1) ∧
 (¬ x1 < 0 →
 ∃ A2 n2 c2, w1.rangeAt b1 0 ([.slice A2 n2 c2] : List Value) ∧
 Ret Tryz.prog 70 #[.agg #[.slice A2 n2 c2]] w1 fun r1 w2 => ∃ x2, r1 = .int .i64 x2 ∧
 ∃ (I1 : Int → World → Prop) (μ1 : Int → World → Nat), I1 0 w2 ∧
 ∀ x3 w3, I1 x3 w3 →
 (x3 < x2 →
 ∃ A3 n3 c3, w3.cell? ⟨b1, 0, none⟩ = some (.slice A3 n3 c3) ∧
 ∃ b2 o1, A3 = some ⟨b2, o1, none⟩ ∧ (0 : Int) ≤ (IntKind.i64.wrap (x3 + 1)) ∧ (IntKind.i64.wrap (x3 + 1)) < (n3 : Int) ∧
 ∃ x4, w3.cell? ⟨b2, (o1 + ((IntKind.i64.wrap (x3 + 1))).toNat * 1), none⟩ = some (.int .i64 x4) ∧
 (x1 < x4 →
 Q (.int .i64 x3) w3) ∧
 (¬ x1 < x4 →
 I1 (IntKind.i64.wrap (x3 + 1)) w3 ∧ μ1 (IntKind.i64.wrap (x3 + 1)) w3 < μ1 x3 w3)) ∧
 (¬ x3 < x2 →
 Q (.int .i64 (-1)) w3))
theorem L_54 (A1 : Option Addr) (n1 c1 : Nat) (x1 : Int) (w : World) (Q : Value → World → Prop) (h : S_54 A1 n1 c1 x1 w Q) : Ret Tryz.prog 54 #[.agg #[.slice A1 n1 c1], .int .i64 x1] w Q := by
 unfold S_54 at h
 refine ret_of_wp Tryz.func54 rfl (wp_seq (qx (qq (qaf (v := .agg #[.slice A1 n1 c1]) rfl ?_))))
 intro b1 w1 e1 e2; replace h := h b1 w1 e1 e2
 refine qbr (qz (wp_seq (wp_seq (qx (qbr (qz (wp_cond_split (t := (decide (x1 < 0))) (by kernel_rfl) (fun hb => ?_) (fun hb => ?_))))))))
 ·replace h := h.1 (of_decide_eq_true hb)
  refine wp_seq (qx (qbr (qz (wp_ret (qs ?_)))))
  exact qbh (v := .int .i64 (-1)) h
 ·replace h := h.2 (of_decide_eq_false hb)
  refine wp_skip (qz (wp_seq (wp_seq (qx ?_))))
  obtain ⟨A2, n2, c2, hx, h⟩ := h
  refine qq (qaq (cs := ([.slice A2 n2 c2] : List Value)) rfl Tryz.isAgg32 Tryz.sizeOf32 (by simp []) hx ?_)
  refine qq (qai (args := #[.agg #[.slice A2 n2 c2]]) rfl Tryz.call70 (Ret.mono h ?_))
  clear h; rintro r1 w2 ⟨x2, rfl, h⟩
  refine qbr (qz (wp_block ?_))
  obtain ⟨I1, μ1, hI1, hB1⟩ := h
  refine wp_loop_st (σ := Int) (fun s a => ∃ u1 : Nat → Value, a = ⟨#[.agg #[.slice A1 n1 c1], .int .i64 x1, .pointer (some ⟨b1, 0, none⟩), undef, u1 4, u1 5, .int .i64 x1, .bool (decide (x1 < 0)), .agg #[.slice A2 n2 c2], .int .i64 x2, .int .i64 s, u1 11, u1 12, u1 13, u1 14, u1 15, u1 16, u1 17, u1 18, u1 19, u1 20, u1 21, u1 22], []⟩) (fun s w => I1 s w) (fun s w => μ1 s w) (0) (qaa) hI1 ?_
  rintro x3 a w3 ⟨u1, rfl⟩ hI1
  have h := hB1 x3 w3 hI1
  refine wp_seq (qx (qbr (qz (wp_seq (wp_cond_split (t := (decide (x3 < x2))) (by kernel_rfl) (fun hb => ?_) (fun hb => ?_))))))
  ·replace h := h.1 (of_decide_eq_true hb)
   refine wp_skip (qz (wp_seq (wp_block (wp_seq (qx (qbr (qz (wp_seq (qx (qbt 2 ?_))))))))))
   obtain ⟨A3, n3, c3, hx, h⟩ := h
   refine qq (qap (v := .slice A3 n3 c3) rfl Tryz.isAgg30 hx ?_)
   refine qbt 2 ?_
   obtain ⟨b2, o1, rfl, h⟩ := h
   obtain ⟨h1, h2, h⟩ := h
   refine qq (qan (k := .i64) (j := (IntKind.i64.wrap (x3 + 1))) (b := b2) (off := o1) (n := n3) (c := c3) rfl Tryz.underlying30 Tryz.sizeOf3 h1 h2 ?_)
   obtain ⟨x4, hx, h⟩ := h
   refine qq (qap (v := .int .i64 x4) rfl Tryz.isAgg3 hx ?_)
   refine qbr (qz (wp_cond_split (t := (decide (x1 < x4))) (by kernel_rfl) (fun hb => ?_) (fun hb => ?_)))
   ·replace h := h.1 (of_decide_eq_true hb)
    refine wp_seq (qx (qbr (qz (wp_ret (block_ret (qs (qs (block_ret (qs ?_)))))))))
    exact qbh (v := .int .i64 x3) h
   ·replace h := h.2 (of_decide_eq_false hb)
    refine wp_skip (qu (qz (qx (qbr (qz ?_)))))
    exact ⟨((IntKind.i64.wrap (x3 + 1))), qaa, h.1, h.2⟩
  ·replace h := h.2 (of_decide_eq_false hb)
   refine wp_exit (qr (qr (block_exit_eq (qz (wp_seq (qx (qbr (qz (wp_ret ?_)))))))))
   exact qbh (v := .int .i64 (-1)) h
def S_59 (A1 : Option Addr) (n1 c1 : Nat) (w : World) (Q : Value → World → Prop) : Prop :=
 ∀ b1 w1, b1 = w.heap.size → w1 = w.alloc (.cells #[.slice A1 n1 c1] 32) →
 ∃ A2 n2 c2, w1.rangeAt b1 0 ([.slice A2 n2 c2] : List Value) ∧
 Ret Tryz.prog 74 #[.agg #[.slice A2 n2 c2]] w1 fun r1 w2 => ∃ x1, r1 = .int .i64 x1 ∧
 Q (.int .i64 (IntKind.i64.wrap (x1 + (-1)))) w2
theorem L_59 (A1 : Option Addr) (n1 c1 : Nat) (w : World) (Q : Value → World → Prop) (h : S_59 A1 n1 c1 w Q) : Ret Tryz.prog 59 #[.agg #[.slice A1 n1 c1]] w Q := by
 unfold S_59 at h
 refine ret_of_wp Tryz.func59 rfl (wp_seq (qx (qq (qaf (v := .agg #[.slice A1 n1 c1]) rfl ?_))))
 intro b1 w1 e1 e2; replace h := h b1 w1 e1 e2
 refine qbr (qz (wp_seq (qx ?_)))
 obtain ⟨A2, n2, c2, hx, h⟩ := h
 refine qq (qaq (cs := ([.slice A2 n2 c2] : List Value)) rfl Tryz.isAgg32 Tryz.sizeOf32 (by simp []) hx ?_)
 refine qq (qai (args := #[.agg #[.slice A2 n2 c2]]) rfl Tryz.call74 (Ret.mono h ?_))
 clear h; rintro r1 w2 ⟨x1, rfl, h⟩
 refine qbr (qz (wp_ret ?_))
 exact qbh (v := .int .i64 (IntKind.i64.wrap (x1 + (-1)))) h
def S_70 (A1 : Option Addr) (n1 c1 : Nat) (w : World) (Q : Value → World → Prop) : Prop :=
 ∀ b1 w1, b1 = w.heap.size → w1 = w.alloc (.cells #[.slice A1 n1 c1] 32) →
 ∃ A2 n2 c2, w1.cell? ⟨b1, 0, none⟩ = some (.slice A2 n2 c2) ∧
 Q (.int .i64 (imax (IntKind.i64.wrap ((n2 : Int) - 1)) 0)) w1
theorem L_70 (A1 : Option Addr) (n1 c1 : Nat) (w : World) (Q : Value → World → Prop) (h : S_70 A1 n1 c1 w Q) : Ret Tryz.prog 70 #[.agg #[.slice A1 n1 c1]] w Q := by
 unfold S_70 at h
 refine ret_of_wp Tryz.func70 rfl (wp_seq (qx (qq (qaf (v := .agg #[.slice A1 n1 c1]) rfl ?_))))
 intro b1 w1 e1 e2; replace h := h b1 w1 e1 e2
 refine qbr (qz (wp_seq (qx (qbt 1 ?_))))
 obtain ⟨A2, n2, c2, hx, h⟩ := h
 refine qq (qap (v := .slice A2 n2 c2) rfl Tryz.isAgg30 hx ?_)
 refine qbr (qz (wp_ret ?_))
 exact qbh (v := .int .i64 (imax (IntKind.i64.wrap ((n2 : Int) - 1)) 0)) h
def S_74 (A1 : Option Addr) (n1 c1 : Nat) (w : World) (Q : Value → World → Prop) : Prop :=
 ∀ b1 w1, b1 = w.heap.size → w1 = w.alloc (.cells #[.slice A1 n1 c1] 32) →
 ∃ A2 n2 c2, w1.cell? ⟨b1, 0, none⟩ = some (.slice A2 n2 c2) ∧
 ((n2 : Int) = 0 →
 Q (.int .i64 0) w1) ∧
 ((n2 : Int) ≠ 0 →
 ∃ A3 n3 c3, w1.cell? ⟨b1, 0, none⟩ = some (.slice A3 n3 c3) ∧
 ∃ A4 n4 c4, w1.cell? ⟨b1, 0, none⟩ = some (.slice A4 n4 c4) ∧
 ∃ b2 o1, A3 = some ⟨b2, o1, none⟩ ∧ (0 : Int) ≤ (IntKind.i64.wrap ((n4 : Int) - 1)) ∧ (IntKind.i64.wrap ((n4 : Int) - 1)) < (n3 : Int) ∧
 ∃ x1, w1.cell? ⟨b2, (o1 + ((IntKind.i64.wrap ((n4 : Int) - 1))).toNat * 1), none⟩ = some (.int .i64 x1) ∧
 Q (.int .i64 x1) w1)
theorem L_74 (A1 : Option Addr) (n1 c1 : Nat) (w : World) (Q : Value → World → Prop) (h : S_74 A1 n1 c1 w Q) : Ret Tryz.prog 74 #[.agg #[.slice A1 n1 c1]] w Q := by
 unfold S_74 at h
 refine ret_of_wp Tryz.func74 rfl (wp_seq (qx (qq (qaf (v := .agg #[.slice A1 n1 c1]) rfl ?_))))
 intro b1 w1 e1 e2; replace h := h b1 w1 e1 e2
 refine qbr (qz (wp_seq (wp_seq (qx (qbt 1 ?_)))))
 obtain ⟨A2, n2, c2, hx, h⟩ := h
 refine qq (qap (v := .slice A2 n2 c2) rfl Tryz.isAgg30 hx ?_)
 refine qbr (qz (wp_cond_split (t := ((n2 : Int) == 0)) (by kernel_rfl) (fun hb => ?_) (fun hb => ?_)))
 ·replace h := h.1 (eq_of_beq hb)
  refine wp_seq (qx (qbr (qz (wp_ret (qs ?_)))))
  exact qbh (v := .int .i64 0) h
 ·replace h := h.2 (ne_of_beq_false hb)
  refine wp_skip (qz (wp_seq (qx (qbt 1 ?_))))
  obtain ⟨A3, n3, c3, hx, h⟩ := h
  refine qq (qap (v := .slice A3 n3 c3) rfl Tryz.isAgg30 hx ?_)
  refine qbt 1 ?_
  obtain ⟨A4, n4, c4, hx, h⟩ := h
  refine qq (qap (v := .slice A4 n4 c4) rfl Tryz.isAgg30 hx ?_)
  refine qbt 2 ?_
  obtain ⟨b2, o1, rfl, h⟩ := h
  obtain ⟨h1, h2, h⟩ := h
  refine qq (qan (k := .i64) (j := (IntKind.i64.wrap ((n4 : Int) - 1))) (b := b2) (off := o1) (n := n3) (c := c3) rfl Tryz.underlying30 Tryz.sizeOf3 h1 h2 ?_)
  obtain ⟨x1, hx, h⟩ := h
  refine qq (qap (v := .int .i64 x1) rfl Tryz.isAgg3 hx ?_)
  refine qbr (qz (wp_ret ?_))
  exact qbh (v := .int .i64 x1) h
end Go.Proofs.YtpkfdhlkknanmaaGreat
