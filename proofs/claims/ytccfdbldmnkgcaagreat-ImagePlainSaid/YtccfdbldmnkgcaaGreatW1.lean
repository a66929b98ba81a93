/-
  For each function: what it asks of the world that it is called in (S_n), and that this suffices (L_n). Written by a program of this proof (gen.py) off the function's own print.
-/
import Derived.Test.YtccfdbldmnkgcaaGreatOpt
import Derived.Test.YtccfdbldmnkgcaaGreatProg
set_option linter.all false
set_option maxRecDepth 4000
namespace Go.Proofs.YtccfdbldmnkgcaaGreat
open Go Go.RowKit Go.Proofs

/- carling/image.New -/
def S_4 (x1 : Int) (w : World) (Q : Value → World → Prop) : Prop :=
  (x1 < 1 →
    Q (.tuple #[.pointer none, .int .i64 1]) w) ∧
  (¬ x1 < 1 →
    (x1 > 216 →
      Q (.tuple #[.pointer none, .int .i64 1]) w) ∧
    (¬ x1 > 216 →
      ∀ b1 w1, b1 = w.heap.size → w1 = w.alloc (.cells ([.slice none 0 0] : List Value).toArray 60) →
      ∃ (I1 : Int → World → Prop) (μ1 : Int → World → Nat), I1 0 w1 ∧
      ∀ (x2 : Int) (w2 : World), I1 x2 w2 →
        (x2 < x1 →
          ∀ w3, w3 = w2.drew →
          ∃ (A1 : Option Addr) (n1 : Nat) (c1 : Nat), w2.cell? ⟨b1, 0, none⟩ = some (.slice A1 n1 c1) ∧
          (0 : Int) ≤ 256 ∧ (256 : Int) ≤ 256 ∧ (1 : Int) * 256 ≤ 281474976710656 ∧
          ∀ b2 w4, b2 = w3.heap.size → w4 = w3.alloc (.cells (madeCells #[.int .u8 0] (256 * 1)) 5) →
          Keep w2 w4 ∧
          ∀ b3 w5, b3 = w4.heap.size → w5 = w4.alloc (.cells ([.slice (some ⟨b2, 0, none⟩) 256 256] : List Value).toArray 33) →
          Keep w2 w5 ∧
          ∃ l1 l2 : List Value, (n1 + 1) * 24 ≤ 140737488355328 ∧ l1.length = n1 * 1 ∧ RdS w5 A1 l1 ∧ l2.length = 1 * 1 ∧ RdS w5 (some ⟨b3, 0, none⟩) l2 ∧ One l2 ∧ (n1 + 1 ≤ c1 → Room w5 A1 (n1 * 1) (1 * 1)) ∧
          ∀ A2 c2 w6, Appended w5 33 1 #[.slice none 0 0] A1 n1 c1 1 l1 l2 A2 c2 w6 →
          (w6.cell? ⟨b1, 0, none⟩).isSome = true ∧ w6.frozen? ⟨b1, 0, none⟩ = false ∧
          ∀ w7, w7 = w6.setCell ⟨b1, 0, none⟩ (.slice A2 (n1 + 1) c2) →
          I1 (IntKind.i64.wrap (x2 + 1)) w7 ∧ μ1 (IntKind.i64.wrap (x2 + 1)) w7 < μ1 x2 w2) ∧
        (¬ x2 < x1 →
          ∀ b4 w8, b4 = w2.heap.size → w8 = w2.alloc (.cells ([.int .i64 3, .iface 58 (.pointer (some ⟨b1, 0, none⟩)), .pointer none] : List Value).toArray 65) →
          Q (.tuple #[.pointer (some ⟨b4, 0, none⟩), .int .i64 0]) w8)))
theorem L_4 (x1 : Int) (w : World) (Q : Value → World → Prop) (h : S_4 x1 w Q) : Ret Tryz.prog 4 #[.int .i64 x1] w Q := by
  unfold S_4 at h
  refine ret_of_wp Tryz.func4 rfl ?_
  refine wp_seq ?_
  refine wp_reg ?_
  refine wl_end (by kernel_rfl) ?_
  refine then_normal ?_
  refine wp_seq ?_
  refine wp_seq ?_
  refine wp_reg ?_
  refine wl_pure 3 (by kernel_rfl) ?_
  refine wl_split (e := (decide (x1 < 1))) ?_ ?_
  · intro hb; refine wl_lit 7 (e := (decide (x1 < 1))) (b := true) (by kernel_rfl) hb ?_
    replace h := h.1 (of_decide_eq_true hb)
    clear hb
    refine wl_end (by kernel_rfl) ?_
    refine then_normal ?_
    refine wp_cond_true (by kernel_rfl) ?_
    refine wp_seq ?_
    refine wp_reg ?_
    refine wl_end (by kernel_rfl) ?_
    refine then_normal ?_
    refine wp_ret ?_
    refine then_ret ?_
    exact rp_ret (v := .tuple #[.pointer none, .int .i64 1]) (by kernel_rfl) (by kernel_rfl) h
  · intro hb; refine wl_lit 7 (e := (decide (x1 < 1))) (b := false) (by kernel_rfl) hb ?_
    replace h := h.2 (of_decide_eq_false hb)
    clear hb
    refine wl_end (by kernel_rfl) ?_
    refine then_normal ?_
    refine wp_cond_split (t := (decide (x1 > 216))) (by kernel_rfl) (fun hb => ?_) (fun hb => ?_)
    · replace h := h.1 (of_decide_eq_true hb)
      clear hb
      refine wp_seq ?_
      refine wp_reg ?_
      refine wl_end (by kernel_rfl) ?_
      refine then_normal ?_
      refine wp_ret ?_
      refine then_ret ?_
      exact rp_ret (v := .tuple #[.pointer none, .int .i64 1]) (by kernel_rfl) (by kernel_rfl) h
    · replace h := h.2 (of_decide_eq_false hb)
      clear hb
      refine wp_skip ?_
      refine then_normal ?_
      refine wp_seq ?_
      refine wp_reg ?_
      refine wl_pure 1 (by kernel_rfl) ?_
      refine wl_op (op_box (v := .agg ([.slice none 0 0] : List Value).toArray) rfl (by kernel_rfl) (by kernel_rfl) ?_)
      intro b1 w1 e1 e2; replace h := h b1 w1 e1 e2; clear e1 e2
      refine wl_end (by kernel_rfl) ?_
      refine then_normal ?_
      refine wp_seq ?_
      refine wp_seq ?_
      refine wp_reg ?_
      refine wl_end (by kernel_rfl) ?_
      refine then_normal ?_
      refine wp_block ?_
      obtain ⟨I1, μ1, hI1, hB1⟩ := h
      refine wp_loop_st (σ := Int) (fun s a => ∃ u1 : Nat → Value, a = ⟨#[.int .i64 x1, undef, .pointer none, .int .i64 0, .pointer (some ⟨b1, 0, none⟩), .int .i64 x1, .bool (decide (x1 < 1)), .bool false, .int .i64 x1, .bool (decide (x1 > 216)), .bool (decide (x1 > 216)), .agg ([.slice none 0 0] : List Value).toArray, .pointer (some ⟨b1, 0, none⟩), .int .i64 x1, .int .i64 s, u1 15, u1 16, u1 17, u1 18, u1 19, u1 20, u1 21, u1 22, u1 23, u1 24, u1 25, u1 26, undef, undef, undef, undef], []⟩) (fun s w => I1 s w) (fun s w => μ1 s w) (0) (enc_intro (by kernel_rfl)) hI1 ?_
      clear hI1
      rintro x2 a w2 ⟨u1, rfl⟩ hI1
      have h := hB1 x2 w2 hI1
      clear hI1 hB1
      refine wp_seq ?_
      refine wp_reg ?_
      refine wl_end (by kernel_rfl) ?_
      refine then_normal ?_
      refine wp_seq ?_
      refine wp_cond_split (t := (decide (x2 < x1))) (by kernel_rfl) (fun hb => ?_) (fun hb => ?_)
      · replace h := h.1 (of_decide_eq_true hb)
        clear hb
        refine wp_skip ?_
        refine then_normal ?_
        refine wp_seq ?_
        refine wp_block ?_
        refine wd_begin (by kernel_rfl) (Keep w2) [7, 10] ?_
        intro w3 e1; have hK1 := keep_drew e1; replace h := h w3 e1; clear e1
        refine wd_takeP 0 rfl (by kernel_rfl) (fun _ _ _ h => h) (y_pure (v := .pointer (some ⟨b1, 0, none⟩)) (by kernel_rfl) (by kernel_rfl)) ?_
        refine wd_takeP 1 rfl (by kernel_rfl) (fun _ _ _ h => h) (y_pure (v := .pointer (some ⟨b1, 0, none⟩)) (by kernel_rfl) (by kernel_rfl)) ?_
        refine wd_takeP 2 rfl (by kernel_rfl) (fun _ _ _ h => h) (y_pure (v := .pointer (some ⟨b1, 0, none⟩)) (by kernel_rfl) (by kernel_rfl)) ?_
        refine wd_takeP 3 rfl (by kernel_rfl) (fun _ _ _ h => h) (y_pure (v := .pointer (some ⟨b1, 0, none⟩)) (by kernel_rfl) (by kernel_rfl)) ?_
        obtain ⟨A1, n1, c1, hx, h⟩ := h
        refine wd_take 4 rfl (by kernel_rfl) (fun _ _ _ h => h) (y_load (v := .slice A1 n1 c1) rfl (by kernel_rfl) (by kernel_rfl) Tryz.isAgg27 (fun _ hk => keep_cell hk hx)) hK1 ?_
        clear hx
        obtain ⟨h1, h2, h3, h⟩ := h
        refine wd_one 5 rfl (by kernel_rfl) (by kernel_rfl) (op_make (kl := .i64) (kc := .i64) (l := 256) (c := 256) rfl (by kernel_rfl) (by kernel_rfl) (by kernel_rfl) Tryz.underlying33 Tryz.typeInfo5 rfl h1 h2 (by decide) h3 ?_)
        intro b2 w4 e1 e2; replace h := h b2 w4 e1 e2; clear h1 h2 h3 e1 e2
        obtain ⟨hK2, h⟩ := h
        refine ⟨fun _ _ => hK2, ?_⟩
        refine wd_one 6 rfl (by kernel_rfl) (by kernel_rfl) (op_bslice (cs := ([.slice (some ⟨b2, 0, none⟩) 256 256] : List Value)) rfl (by kernel_rfl) Tryz.underlying27 Tryz.sizeOf33 Tryz.zeroValue33 (by kernel_rfl) (by decide) (by decide) ?_)
        intro b3 w5 e1 e2; replace h := h b3 w5 e1 e2; clear e1 e2
        obtain ⟨hK3, h⟩ := h
        refine ⟨fun _ _ => hK3, ?_⟩
        obtain ⟨l1, l2, h1, h2, h3, h4, h5, h6, h7, h⟩ := h
        refine wd_one 7 rfl (by kernel_rfl) (by kernel_rfl) (op_append (A := A1) (n := n1) (c := c1) (B := (some ⟨b3, 0, none⟩)) (m := 1) (c2 := 1) (olds := l1) (news := l2) rfl (by kernel_rfl) (by kernel_rfl) (by kernel_rfl) Tryz.underlying27 Tryz.underlying27 Tryz.typeInfo33 rfl (by decide) h1 h2 h3 h4 h5 h6 h7 ?_)
        intro A2 c2 w6 e1; replace h := h A2 c2 w6 e1; clear h1 h2 h3 h4 h5 h6 h7 e1
        refine ⟨fun hh => absurd hh (by decide), ?_⟩
        refine wd_takeP 8 rfl (by kernel_rfl) (fun _ _ _ h => h) (y_pure (v := .pointer (some ⟨b1, 0, none⟩)) (by kernel_rfl) (by kernel_rfl)) ?_
        refine wd_takeP 9 rfl (by kernel_rfl) (fun _ _ _ h => h) (y_pure (v := .pointer (some ⟨b1, 0, none⟩)) (by kernel_rfl) (by kernel_rfl)) ?_
        obtain ⟨hc, hf, h⟩ := h
        refine wd_one 10 rfl (by kernel_rfl) (by kernel_rfl) (op_store (v := .slice A2 (n1 + 1) c2) rfl (by kernel_rfl) (by kernel_rfl) (by kernel_rfl) Tryz.sizeOf27 rfl hc hf ?_)
        intro w7 e1; replace h := h w7 e1; clear hc hf e1
        refine ⟨fun hh => absurd hh (by decide), ?_⟩
        refine wd_done (by kernel_rfl) ?_
        refine block_normal ?_
        refine then_normal ?_
        refine wp_reg ?_
        refine wl_end (by kernel_rfl) ?_
        refine then_normal ?_
        exact ⟨((IntKind.i64.wrap (x2 + 1))), enc_intro (by kernel_rfl), h.1, h.2⟩
      · replace h := h.2 (of_decide_eq_false hb)
        clear hb
        refine wp_exit ?_
        refine then_exit ?_
        refine then_exit ?_
        refine block_exit_eq ?_
        refine then_normal ?_
        refine wp_seq ?_
        refine wp_reg ?_
        refine wl_pure 3 (by kernel_rfl) ?_
        refine wl_op (op_box (v := .agg ([.int .i64 3, .iface 58 (.pointer (some ⟨b1, 0, none⟩)), .pointer none] : List Value).toArray) rfl (by kernel_rfl) (by kernel_rfl) ?_)
        intro b4 w8 e1 e2; replace h := h b4 w8 e1 e2; clear e1 e2
        refine wl_end (by kernel_rfl) ?_
        refine then_normal ?_
        refine wp_ret ?_
        exact rp_ret (v := .tuple #[.pointer (some ⟨b4, 0, none⟩), .int .i64 0]) (by kernel_rfl) (by kernel_rfl) h

/- carling/carlingref19.New -/
def S_5 (x1 : Int) (w : World) (Q : Value → World → Prop) : Prop :=
  (x1 < 1 →
    Q (.tuple #[.slice none 0 0, .int .i64 1]) w) ∧
  (¬ x1 < 1 →
    (x1 > 216 →
      Q (.tuple #[.slice none 0 0, .int .i64 1]) w) ∧
    (¬ x1 > 216 →
      ∃ (I1 : (Option Addr) → Nat → Nat → Int → World → Prop) (μ1 : (Option Addr) → Nat → Nat → Int → World → Nat), I1 none 0 0 0 w ∧
      ∀ (A1 : Option Addr) (n1 : Nat) (c1 : Nat) (x2 : Int) (w1 : World), I1 A1 n1 c1 x2 w1 →
        (x2 < x1 →
          (0 : Int) ≤ 256 ∧ (256 : Int) ≤ 256 ∧ (1 : Int) * 256 ≤ 281474976710656 ∧
          ∀ b1 w2, b1 = w1.heap.size → w2 = w1.alloc (.cells (madeCells #[.int .u8 0] (256 * 1)) 5) →
          ∀ b2 w3, b2 = w2.heap.size → w3 = w2.alloc (.cells ([.slice (some ⟨b1, 0, none⟩) 256 256] : List Value).toArray 33) →
          ∃ l1 l2 : List Value, (n1 + 1) * 24 ≤ 140737488355328 ∧ l1.length = n1 * 1 ∧ RdS w3 A1 l1 ∧ l2.length = 1 * 1 ∧ RdS w3 (some ⟨b2, 0, none⟩) l2 ∧ One l2 ∧ (n1 + 1 ≤ c1 → Room w3 A1 (n1 * 1) (1 * 1)) ∧
          ∀ A2 c2 w4, Appended w3 33 1 #[.slice none 0 0] A1 n1 c1 1 l1 l2 A2 c2 w4 →
          I1 A2 (n1 + 1) c2 (IntKind.i64.wrap (x2 + 1)) w4 ∧ μ1 A2 (n1 + 1) c2 (IntKind.i64.wrap (x2 + 1)) w4 < μ1 A1 n1 c1 x2 w1) ∧
        (¬ x2 < x1 →
          Q (.tuple #[.slice A1 n1 c1, .int .i64 0]) w1)))
theorem L_5 (x1 : Int) (w : World) (Q : Value → World → Prop) (h : S_5 x1 w Q) : Ret Tryz.prog 5 #[.int .i64 x1] w Q := by
  unfold S_5 at h
  refine ret_of_wp Tryz.func5 rfl ?_
  refine wp_seq ?_
  refine wp_reg ?_
  refine wl_end (by kernel_rfl) ?_
  refine then_normal ?_
  refine wp_seq ?_
  refine wp_seq ?_
  refine wp_reg ?_
  refine wl_pure 3 (by kernel_rfl) ?_
  refine wl_split (e := (decide (x1 < 1))) ?_ ?_
  · intro hb; refine wl_lit 8 (e := (decide (x1 < 1))) (b := true) (by kernel_rfl) hb ?_
    replace h := h.1 (of_decide_eq_true hb)
    clear hb
    refine wl_end (by kernel_rfl) ?_
    refine then_normal ?_
    refine wp_cond_true (by kernel_rfl) ?_
    refine wp_seq ?_
    refine wp_reg ?_
    refine wl_end (by kernel_rfl) ?_
    refine then_normal ?_
    refine wp_ret ?_
    refine then_ret ?_
    exact rp_ret (v := .tuple #[.slice none 0 0, .int .i64 1]) (by kernel_rfl) (by kernel_rfl) h
  · intro hb; refine wl_lit 8 (e := (decide (x1 < 1))) (b := false) (by kernel_rfl) hb ?_
    replace h := h.2 (of_decide_eq_false hb)
    clear hb
    refine wl_end (by kernel_rfl) ?_
    refine then_normal ?_
    refine wp_cond_split (t := (decide (x1 > 216))) (by kernel_rfl) (fun hb => ?_) (fun hb => ?_)
    · replace h := h.1 (of_decide_eq_true hb)
      clear hb
      refine wp_seq ?_
      refine wp_reg ?_
      refine wl_end (by kernel_rfl) ?_
      refine then_normal ?_
      refine wp_ret ?_
      refine then_ret ?_
      exact rp_ret (v := .tuple #[.slice none 0 0, .int .i64 1]) (by kernel_rfl) (by kernel_rfl) h
    · replace h := h.2 (of_decide_eq_false hb)
      clear hb
      refine wp_skip ?_
      refine then_normal ?_
      refine wp_seq ?_
      refine wp_reg ?_
      refine wl_end (by kernel_rfl) ?_
      refine then_normal ?_
      refine wp_seq ?_
      refine wp_seq ?_
      refine wp_reg ?_
      refine wl_end (by kernel_rfl) ?_
      refine then_normal ?_
      refine wp_block ?_
      obtain ⟨I1, μ1, hI1, hB1⟩ := h
      refine wp_loop_st (σ := (Option Addr) × Nat × Nat × Int) (fun s a => ∃ u1 : Nat → Value, a = ⟨#[.int .i64 x1, undef, .slice none 0 0, .int .i64 0, .slice s.1 s.2.1 s.2.2.1, .int .i64 s.2.2.2, .int .i64 x1, .bool (decide (x1 < 1)), .bool false, .int .i64 x1, .bool (decide (x1 > 216)), .bool (decide (x1 > 216)), u1 12, u1 13, u1 14, u1 15, u1 16, u1 17, u1 18, u1 19, u1 20, undef], []⟩) (fun s w => I1 s.1 s.2.1 s.2.2.1 s.2.2.2 w) (fun s w => μ1 s.1 s.2.1 s.2.2.1 s.2.2.2 w) (none, 0, 0, 0) (enc_intro (by kernel_rfl)) hI1 ?_
      clear hI1
      rintro ⟨A1, n1, c1, x2⟩ a w1 ⟨u1, rfl⟩ hI1
      have h := hB1 A1 n1 c1 x2 w1 hI1
      clear hI1 hB1
      refine wp_seq ?_
      refine wp_seq ?_
      refine wp_reg ?_
      refine wl_end (by kernel_rfl) ?_
      refine then_normal ?_
      refine wp_cond_split (t := (decide (x2 < x1))) (by kernel_rfl) (fun hb => ?_) (fun hb => ?_)
      · replace h := h.1 (of_decide_eq_true hb)
        clear hb
        refine wp_skip ?_
        refine then_normal ?_
        refine wp_seq ?_
        refine wp_block ?_
        refine wp_reg ?_
        refine wl_pure 1 (by kernel_rfl) ?_
        obtain ⟨h1, h2, h3, h⟩ := h
        refine wl_op (op_make (kl := .i64) (kc := .i64) (l := 256) (c := 256) rfl (by kernel_rfl) (by kernel_rfl) (by kernel_rfl) Tryz.underlying33 Tryz.typeInfo5 rfl h1 h2 (by decide) h3 ?_)
        intro b1 w2 e1 e2; replace h := h b1 w2 e1 e2; clear h1 h2 h3 e1 e2
        refine wl_op (op_bslice (cs := ([.slice (some ⟨b1, 0, none⟩) 256 256] : List Value)) rfl (by kernel_rfl) Tryz.underlying27 Tryz.sizeOf33 Tryz.zeroValue33 (by kernel_rfl) (by decide) (by decide) ?_)
        intro b2 w3 e1 e2; replace h := h b2 w3 e1 e2; clear e1 e2
        obtain ⟨l1, l2, h1, h2, h3, h4, h5, h6, h7, h⟩ := h
        refine wl_op (op_append (A := A1) (n := n1) (c := c1) (B := (some ⟨b2, 0, none⟩)) (m := 1) (c2 := 1) (olds := l1) (news := l2) rfl (by kernel_rfl) (by kernel_rfl) (by kernel_rfl) Tryz.underlying27 Tryz.underlying27 Tryz.typeInfo33 rfl (by decide) h1 h2 h3 h4 h5 h6 h7 ?_)
        intro A2 c2 w4 e1; replace h := h A2 c2 w4 e1; clear h1 h2 h3 h4 h5 h6 h7 e1
        refine wl_end (by kernel_rfl) ?_
        refine block_normal ?_
        refine then_normal ?_
        refine wp_reg ?_
        refine wl_end (by kernel_rfl) ?_
        refine then_normal ?_
        exact ⟨(A2, (n1 + 1), c2, (IntKind.i64.wrap (x2 + 1))), enc_intro (by kernel_rfl), h.1, h.2⟩
      · replace h := h.2 (of_decide_eq_false hb)
        clear hb
        refine wp_exit ?_
        refine then_exit ?_
        refine then_exit ?_
        refine block_exit_eq ?_
        refine then_normal ?_
        refine wp_seq ?_
        refine wp_reg ?_
        refine wl_end (by kernel_rfl) ?_
        refine then_normal ?_
        refine wp_ret ?_
        exact rp_ret (v := .tuple #[.slice A1 n1 c1, .int .i64 0]) (by kernel_rfl) (by kernel_rfl) h

/- carling/carlinglaw19.long -/
def S_6 (A1 : Option Addr) (n1 : Nat) (c1 : Nat) (w : World) (Q : Value → World → Prop) : Prop :=
  Ret Tryz.prog 8 #[.slice A1 n1 c1] w fun r1 w1 => ∃ (A2 : Option Addr) (n2 : Nat) (c2 : Nat), r1 = .slice A2 n2 c2 ∧ 
    ∃ (I1 : Int → World → Prop) (μ1 : Int → World → Nat), I1 0 w1 ∧
    ∀ (x1 : Int) (w2 : World), I1 x1 w2 →
      (x1 < ((n2 : Nat) : Int) →
        ∃ b1 o1, A2 = some ⟨b1, o1, none⟩ ∧ (0 : Int) ≤ x1 ∧ x1 < ((n2 : Nat) : Int) ∧
        ∃ (x2 : Int) (x3 : Int) (A3 : Option Addr) (n3 : Nat) (c3 : Nat) (x4 : Int), w2.rangeAt b1 (o1 + (x1).toNat * 4) ([.int .u8 x2, .int .i64 x3, .slice A3 n3 c3, .int .u32 x4] : List Value) ∧
        ∀ b2 w3, b2 = w2.heap.size → w3 = w2.alloc (.cells ([.int .u8 0, .int .i64 0, .slice none 0 0, .int .u32 0] : List Value).toArray 36) →
        w3.there b2 0 4 ∧
        ∀ w4, w4 = w3.setCells b2 0 ([.int .u8 x2, .int .i64 x3, .slice A3 n3 c3, .int .u32 x4] : List Value) →
        ∃ (A4 : Option Addr) (n4 : Nat) (c4 : Nat), w4.cell? ⟨b2, 2, none⟩ = some (.slice A4 n4 c4) ∧
        (((n4 : Nat) : Int) > 300 →
          Q (.bool true) w4) ∧
        (¬ ((n4 : Nat) : Int) > 300 →
          I1 (IntKind.i64.wrap (x1 + 1)) w4 ∧ μ1 (IntKind.i64.wrap (x1 + 1)) w4 < μ1 x1 w2)) ∧
      (¬ x1 < ((n2 : Nat) : Int) →
        Q (.bool false) w2)
theorem L_6 (A1 : Option Addr) (n1 : Nat) (c1 : Nat) (w : World) (Q : Value → World → Prop) (h : S_6 A1 n1 c1 w Q) : Ret Tryz.prog 6 #[.slice A1 n1 c1] w Q := by
  unfold S_6 at h
  refine ret_of_wp Tryz.func6 rfl ?_
  refine wp_seq ?_
  refine wp_reg ?_
  refine wl_end (by kernel_rfl) ?_
  refine then_normal ?_
  refine wp_seq ?_
  refine wp_seq ?_
  refine wp_reg ?_
  refine wl_pure 1 (by kernel_rfl) ?_
  refine wl_op (op_callf (args := #[.slice A1 n1 c1]) rfl (by kernel_rfl) (by kernel_rfl) Tryz.call8 (Ret.mono h ?_))
  clear h; rintro r1 w1 ⟨A2, n2, c2, rfl, h⟩
  refine wl_end (by kernel_rfl) ?_
  refine then_normal ?_
  refine wp_block ?_
  obtain ⟨I1, μ1, hI1, hB1⟩ := h
  refine wp_loop_st (σ := Int) (fun s a => ∃ u1 : Nat → Value, a = ⟨#[.slice A1 n1 c1, undef, u1 2, undef, u1 4, .slice A1 n1 c1, .slice A2 n2 c2, .int .i64 ((n2 : Nat) : Int), .int .i64 s, u1 9, u1 10, u1 11, u1 12, u1 13, u1 14, u1 15, u1 16], []⟩) (fun s w => I1 s w) (fun s w => μ1 s w) (0) (enc_intro (by kernel_rfl)) hI1 ?_
  clear hI1
  rintro x1 a w2 ⟨u1, rfl⟩ hI1
  have h := hB1 x1 w2 hI1
  clear hI1 hB1
  refine wp_seq ?_
  refine wp_reg ?_
  refine wl_end (by kernel_rfl) ?_
  refine then_normal ?_
  refine wp_seq ?_
  refine wp_cond_split (t := (decide (x1 < ((n2 : Nat) : Int)))) (by kernel_rfl) (fun hb => ?_) (fun hb => ?_)
  · replace h := h.1 (of_decide_eq_true hb)
    clear hb
    refine wp_skip ?_
    refine then_normal ?_
    refine wp_seq ?_
    refine wp_block ?_
    refine wp_seq ?_
    refine wp_reg ?_
    obtain ⟨b1, o1, rfl, h⟩ := h
    obtain ⟨h1, h2, h⟩ := h
    refine wl_op (op_index (k := .i64) (j := x1) (b := b1) (off := o1) (n := n2) (c := c2) rfl (by kernel_rfl) (by kernel_rfl) (by kernel_rfl) Tryz.underlying22 Tryz.sizeOf36 h1 h2 ?_)
    clear h1 h2
    obtain ⟨x2, x3, A3, n3, c3, x4, hx, h⟩ := h
    refine wl_op (op_loadN (cs := ([.int .u8 x2, .int .i64 x3, .slice A3 n3 c3, .int .u32 x4] : List Value)) rfl (by kernel_rfl) (by kernel_rfl) Tryz.isAgg36 Tryz.sizeOf36 (by simp []) hx ?_)
    clear hx
    refine wl_op (op_alloc rfl (by kernel_rfl) Tryz.zeroValue36 ?_)
    intro b2 w3 e1 e2; replace h := h b2 w3 e1 e2; clear e1 e2
    obtain ⟨hw, h⟩ := h
    refine wl_op (op_storeN (cs := ([.int .u8 x2, .int .i64 x3, .slice A3 n3 c3, .int .u32 x4] : List Value)) rfl (by kernel_rfl) (by kernel_rfl) (by kernel_rfl) Tryz.sizeOf36 rfl (one_of (by kernel_rfl)) hw ?_)
    intro w4 e1; replace h := h w4 e1; clear hw e1
    refine wl_nil ?_
    refine then_normal ?_
    refine wp_seq ?_
    refine wp_reg ?_
    refine wl_pure 1 (by kernel_rfl) ?_
    obtain ⟨A4, n4, c4, hx, h⟩ := h
    refine wl_op (op_load (v := .slice A4 n4 c4) rfl (by kernel_rfl) (by kernel_rfl) Tryz.isAgg33 hx ?_)
    clear hx
    refine wl_end (by kernel_rfl) ?_
    refine then_normal ?_
    refine wp_cond_split (t := (decide (((n4 : Nat) : Int) > 300))) (by kernel_rfl) (fun hb => ?_) (fun hb => ?_)
    · replace h := h.1 (of_decide_eq_true hb)
      clear hb
      refine wp_seq ?_
      refine wp_reg ?_
      refine wl_end (by kernel_rfl) ?_
      refine then_normal ?_
      refine wp_ret ?_
      refine block_ret ?_
      refine then_ret ?_
      refine then_ret ?_
      refine block_ret ?_
      refine then_ret ?_
      exact rp_ret (v := .bool true) (by kernel_rfl) (by kernel_rfl) h
    · replace h := h.2 (of_decide_eq_false hb)
      clear hb
      refine wp_skip ?_
      refine block_normal ?_
      refine then_normal ?_
      refine wp_reg ?_
      refine wl_end (by kernel_rfl) ?_
      refine then_normal ?_
      exact ⟨((IntKind.i64.wrap (x1 + 1))), enc_intro (by kernel_rfl), h.1, h.2⟩
  · replace h := h.2 (of_decide_eq_false hb)
    clear hb
    refine wp_exit ?_
    refine then_exit ?_
    refine then_exit ?_
    refine block_exit_eq ?_
    refine then_normal ?_
    refine wp_seq ?_
    refine wp_reg ?_
    refine wl_end (by kernel_rfl) ?_
    refine then_normal ?_
    refine wp_ret ?_
    exact rp_ret (v := .bool false) (by kernel_rfl) (by kernel_rfl) h

/- carling/carlinglaw19.alive -/
def S_7  (w : World) (Q : Value → World → Prop) : Prop :=
  Ret Tryz.prog 4 #[.int .i64 2] w fun r1 w1 => ∃ (p1 : Option Addr) (x1 : Int), r1 = .tuple #[.pointer p1, .int .i64 x1] ∧ 
    (p1 = none →
      Q (.bool false) w1) ∧
    (p1 ≠ none →
      (x1 ≠ 0 →
        Q (.bool false) w1) ∧
      (x1 = 0 →
        ∀ b1 w2, b1 = w1.heap.size → w2 = w1.alloc (.cells ([.int .u8 4] : List Value).toArray 5) →
        Ret Tryz.prog 9 #[.slice (some ⟨b1, 0, none⟩) 1 1] w2 fun r2 w3 => ∃ (A1 : Option Addr) (n1 : Nat) (c1 : Nat), r2 = .slice A1 n1 c1 ∧ 
          Ret Tryz.prog 11 #[.pointer p1, .int .i64 1, .slice A1 n1 c1] w3 fun r3 w4 => ∃ (x2 : Int), r3 = .int .i64 x2 ∧ 
            (x2 ≠ 0 →
              Q (.bool false) w4) ∧
            (x2 = 0 →
              Ret Tryz.prog 22 #[.pointer p1] w4 fun r4 w5 => ∃ (x3 : Int), r4 = .int .i64 x3 ∧ 
                (x3 ≠ 3 →
                  Q (.bool false) w5) ∧
                (x3 = 3 →
                  Ret Tryz.prog 19 #[.pointer p1] w5 fun r5 w6 => ∃ (A2 : Option Addr) (n2 : Nat) (c2 : Nat) (x4 : Int), r5 = .tuple #[.slice A2 n2 c2, .int .i64 x4] ∧ 
                    (x4 = 0 →
                      (((n2 : Nat) : Int) = 2 →
                        ∃ b2 o1, A2 = some ⟨b2, o1, none⟩ ∧ (0 : Int) ≤ 1 ∧ 1 < ((n2 : Nat) : Int) ∧
                        ∃ (A3 : Option Addr) (n3 : Nat) (c3 : Nat), w6.cell? ⟨b2, (o1 + 1 * 1), none⟩ = some (.slice A3 n3 c3) ∧
                        (((n3 : Nat) : Int) = 256 →
                          (0 : Int) ≤ 0 ∧ 0 < ((n2 : Nat) : Int) ∧
                          ∃ (A4 : Option Addr) (n4 : Nat) (c4 : Nat), w6.cell? ⟨b2, (o1 + 0 * 1), none⟩ = some (.slice A4 n4 c4) ∧
                          ∃ b3 o2, A4 = some ⟨b3, o2, none⟩ ∧ (0 : Int) ≤ 0 ∧ 0 < ((n4 : Nat) : Int) ∧
                          ∃ (x5 : Int), w6.cell? ⟨b3, (o2 + 0 * 1), none⟩ = some (.int .u8 x5) ∧
                          (x5 = 0 →
                            (0 : Int) ≤ 1 ∧ 1 < ((n2 : Nat) : Int) ∧
                            ∃ (A5 : Option Addr) (n5 : Nat) (c5 : Nat), w6.cell? ⟨b2, (o1 + 1 * 1), none⟩ = some (.slice A5 n5 c5) ∧
                            ∃ b4 o3, A5 = some ⟨b4, o3, none⟩ ∧ (0 : Int) ≤ 0 ∧ 0 < ((n5 : Nat) : Int) ∧
                            ∃ (x6 : Int), w6.cell? ⟨b4, (o3 + 0 * 1), none⟩ = some (.int .u8 x6) ∧
                            Q (.bool (x6 == 4)) w6) ∧
                          (x5 ≠ 0 →
                            Q (.bool false) w6)) ∧
                        (((n3 : Nat) : Int) ≠ 256 →
                          Q (.bool false) w6)) ∧
                      (((n2 : Nat) : Int) ≠ 2 →
                        Q (.bool false) w6)) ∧
                    (x4 ≠ 0 →
                      Q (.bool false) w6)))))
theorem L_7  (w : World) (Q : Value → World → Prop) (h : S_7  w Q) : Ret Tryz.prog 7 #[] w Q := by
  unfold S_7 at h
  refine ret_of_wp Tryz.func7 rfl ?_
  refine wp_seq ?_
  refine wp_reg ?_
  refine wl_end (by kernel_rfl) ?_
  refine then_normal ?_
  refine wp_seq ?_
  refine wp_reg ?_
  refine wl_op (op_callf (args := #[.int .i64 2]) rfl (by kernel_rfl) (by kernel_rfl) Tryz.call4 (Ret.mono h ?_))
  clear h; rintro r1 w1 ⟨p1, x1, rfl, h⟩
  refine wl_end (by kernel_rfl) ?_
  refine then_normal ?_
  refine wp_seq ?_
  refine wp_seq ?_
  refine wp_reg ?_
  refine wl_pure 1 (by kernel_rfl) ?_
  refine wl_op (op_eq_ptr_nil (p := p1) rfl (by kernel_rfl) (by kernel_rfl) (by kernel_rfl) Tryz.underlying23 ?_)
  refine wl_pure 1 (by kernel_rfl) ?_
  refine wl_split (e := p1.isNone) ?_ ?_
  · intro hb; refine wl_lit 11 (e := p1.isNone) (b := true) (by kernel_rfl) hb ?_
    replace h := h.1 (Option.isNone_iff_eq_none.1 hb)
    clear hb
    refine wl_end (by kernel_rfl) ?_
    refine then_normal ?_
    refine wp_cond_true (by kernel_rfl) ?_
    refine wp_seq ?_
    refine wp_reg ?_
    refine wl_end (by kernel_rfl) ?_
    refine then_normal ?_
    refine wp_ret ?_
    refine then_ret ?_
    exact rp_ret (v := .bool false) (by kernel_rfl) (by kernel_rfl) h
  · intro hb; refine wl_lit 11 (e := p1.isNone) (b := false) (by kernel_rfl) hb ?_
    replace h := h.2 (ne_none_of hb)
    clear hb
    refine wl_pure 4 (by kernel_rfl) ?_
    refine wl_split (e := (x1 != 0)) ?_ ?_
    · intro hb; refine wl_lit 15 (e := (x1 != 0)) (b := true) (by kernel_rfl) hb ?_
      replace h := h.1 (bne_iff_ne.1 hb)
      clear hb
      refine wl_end (by kernel_rfl) ?_
      refine then_normal ?_
      refine wp_cond_true (by kernel_rfl) ?_
      refine wp_seq ?_
      refine wp_reg ?_
      refine wl_end (by kernel_rfl) ?_
      refine then_normal ?_
      refine wp_ret ?_
      refine then_ret ?_
      exact rp_ret (v := .bool false) (by kernel_rfl) (by kernel_rfl) h
    · intro hb; refine wl_lit 15 (e := (x1 != 0)) (b := false) (by kernel_rfl) hb ?_
      replace h := h.2 (bne_false hb)
      clear hb
      refine wl_pure 1 (by kernel_rfl) ?_
      refine wl_op (op_bslice (cs := ([.int .u8 4] : List Value)) rfl (by kernel_rfl) Tryz.underlying33 Tryz.sizeOf5 Tryz.zeroValue5 (by kernel_rfl) (by decide) (by decide) ?_)
      intro b1 w2 e1 e2; replace h := h b1 w2 e1 e2; clear e1 e2
      refine wl_op (op_callf (args := #[.slice (some ⟨b1, 0, none⟩) 1 1]) rfl (by kernel_rfl) (by kernel_rfl) Tryz.call9 (Ret.mono h ?_))
      clear h; rintro r2 w3 ⟨A1, n1, c1, rfl, h⟩
      refine wl_op (op_callf (args := #[.pointer p1, .int .i64 1, .slice A1 n1 c1]) rfl (by kernel_rfl) (by kernel_rfl) Tryz.call11 (Ret.mono h ?_))
      clear h; rintro r3 w4 ⟨x2, rfl, h⟩
      refine wl_pure 3 (by kernel_rfl) ?_
      refine wl_split (e := (x2 != 0)) ?_ ?_
      · intro hb; refine wl_lit 22 (e := (x2 != 0)) (b := true) (by kernel_rfl) hb ?_
        replace h := h.1 (bne_iff_ne.1 hb)
        clear hb
        refine wl_end (by kernel_rfl) ?_
        refine then_normal ?_
        refine wp_cond_true (by kernel_rfl) ?_
        refine wp_seq ?_
        refine wp_reg ?_
        refine wl_end (by kernel_rfl) ?_
        refine then_normal ?_
        refine wp_ret ?_
        refine then_ret ?_
        exact rp_ret (v := .bool false) (by kernel_rfl) (by kernel_rfl) h
      · intro hb; refine wl_lit 22 (e := (x2 != 0)) (b := false) (by kernel_rfl) hb ?_
        replace h := h.2 (bne_false hb)
        clear hb
        refine wl_pure 1 (by kernel_rfl) ?_
        refine wl_op (op_callf (args := #[.pointer p1]) rfl (by kernel_rfl) (by kernel_rfl) Tryz.call22 (Ret.mono h ?_))
        clear h; rintro r4 w5 ⟨x3, rfl, h⟩
        refine wl_end (by kernel_rfl) ?_
        refine then_normal ?_
        refine wp_cond_split (t := (x3 != 3)) (by kernel_rfl) (fun hb => ?_) (fun hb => ?_)
        · replace h := h.1 (bne_iff_ne.1 hb)
          clear hb
          refine wp_seq ?_
          refine wp_reg ?_
          refine wl_end (by kernel_rfl) ?_
          refine then_normal ?_
          refine wp_ret ?_
          refine then_ret ?_
          exact rp_ret (v := .bool false) (by kernel_rfl) (by kernel_rfl) h
        · replace h := h.2 (bne_false hb)
          clear hb
          refine wp_skip ?_
          refine then_normal ?_
          refine wp_seq ?_
          refine wp_reg ?_
          refine wl_pure 1 (by kernel_rfl) ?_
          refine wl_op (op_callf (args := #[.pointer p1]) rfl (by kernel_rfl) (by kernel_rfl) Tryz.call19 (Ret.mono h ?_))
          clear h; rintro r5 w6 ⟨A2, n2, c2, x4, rfl, h⟩
          refine wl_end (by kernel_rfl) ?_
          refine then_normal ?_
          refine wp_seq ?_
          refine wp_reg ?_
          refine wl_pure 3 (by kernel_rfl) ?_
          refine wl_split (e := (x4 == 0)) ?_ ?_
          · intro hb; refine wl_lit 34 (e := (x4 == 0)) (b := true) (by kernel_rfl) hb ?_
            replace h := h.1 (eq_of_beq hb)
            clear hb
            refine wl_pure 5 (by kernel_rfl) ?_
            refine wl_split (e := (((n2 : Nat) : Int) == 2)) ?_ ?_
            · intro hb; refine wl_lit 39 (e := (((n2 : Nat) : Int) == 2)) (b := true) (by kernel_rfl) hb ?_
              replace h := h.1 (eq_of_beq hb)
              clear hb
              refine wl_pure 1 (by kernel_rfl) ?_
              obtain ⟨b2, o1, rfl, h⟩ := h
              obtain ⟨h1, h2, h⟩ := h
              refine wl_op (op_index (k := .i64) (j := 1) (b := b2) (off := o1) (n := n2) (c := c2) rfl (by kernel_rfl) (by kernel_rfl) (by kernel_rfl) Tryz.underlying27 Tryz.sizeOf33 h1 h2 ?_)
              clear h1 h2
              obtain ⟨A3, n3, c3, hx, h⟩ := h
              refine wl_op (op_load (v := .slice A3 n3 c3) rfl (by kernel_rfl) (by kernel_rfl) Tryz.isAgg33 hx ?_)
              clear hx
              refine wl_pure 4 (by kernel_rfl) ?_
              refine wl_split (e := (((n3 : Nat) : Int) == 256)) ?_ ?_
              · intro hb; refine wl_lit 46 (e := (((n3 : Nat) : Int) == 256)) (b := true) (by kernel_rfl) hb ?_
                replace h := h.1 (eq_of_beq hb)
                clear hb
                refine wl_pure 1 (by kernel_rfl) ?_
                obtain ⟨h1, h2, h⟩ := h
                refine wl_op (op_index (k := .i64) (j := 0) (b := b2) (off := o1) (n := n2) (c := c2) rfl (by kernel_rfl) (by kernel_rfl) (by kernel_rfl) Tryz.underlying27 Tryz.sizeOf33 h1 h2 ?_)
                clear h1 h2
                obtain ⟨A4, n4, c4, hx, h⟩ := h
                refine wl_op (op_load (v := .slice A4 n4 c4) rfl (by kernel_rfl) (by kernel_rfl) Tryz.isAgg33 hx ?_)
                clear hx
                obtain ⟨b3, o2, rfl, h⟩ := h
                obtain ⟨h1, h2, h⟩ := h
                refine wl_op (op_index (k := .i64) (j := 0) (b := b3) (off := o2) (n := n4) (c := c4) rfl (by kernel_rfl) (by kernel_rfl) (by kernel_rfl) Tryz.underlying33 Tryz.sizeOf5 h1 h2 ?_)
                clear h1 h2
                obtain ⟨x5, hx, h⟩ := h
                refine wl_op (op_load (v := .int .u8 x5) rfl (by kernel_rfl) (by kernel_rfl) Tryz.isAgg5 hx ?_)
                clear hx
                refine wl_pure 3 (by kernel_rfl) ?_
                refine wl_split (e := (x5 == 0)) ?_ ?_
                · intro hb; refine wl_lit 54 (e := (x5 == 0)) (b := true) (by kernel_rfl) hb ?_
                  replace h := h.1 (eq_of_beq hb)
                  clear hb
                  refine wl_pure 1 (by kernel_rfl) ?_
                  obtain ⟨h1, h2, h⟩ := h
                  refine wl_op (op_index (k := .i64) (j := 1) (b := b2) (off := o1) (n := n2) (c := c2) rfl (by kernel_rfl) (by kernel_rfl) (by kernel_rfl) Tryz.underlying27 Tryz.sizeOf33 h1 h2 ?_)
                  clear h1 h2
                  obtain ⟨A5, n5, c5, hx, h⟩ := h
                  refine wl_op (op_load (v := .slice A5 n5 c5) rfl (by kernel_rfl) (by kernel_rfl) Tryz.isAgg33 hx ?_)
                  clear hx
                  obtain ⟨b4, o3, rfl, h⟩ := h
                  obtain ⟨h1, h2, h⟩ := h
                  refine wl_op (op_index (k := .i64) (j := 0) (b := b4) (off := o3) (n := n5) (c := c5) rfl (by kernel_rfl) (by kernel_rfl) (by kernel_rfl) Tryz.underlying33 Tryz.sizeOf5 h1 h2 ?_)
                  clear h1 h2
                  obtain ⟨x6, hx, h⟩ := h
                  refine wl_op (op_load (v := .int .u8 x6) rfl (by kernel_rfl) (by kernel_rfl) Tryz.isAgg5 hx ?_)
                  clear hx
                  refine wl_end (by kernel_rfl) ?_
                  refine then_normal ?_
                  refine wp_ret ?_
                  exact rp_ret (v := .bool (x6 == 4)) (by kernel_rfl) (by kernel_rfl) h
                · intro hb; refine wl_lit 54 (e := (x5 == 0)) (b := false) (by kernel_rfl) hb ?_
                  replace h := h.2 (ne_of_beq_false hb)
                  clear hb
                  refine wl_end (by kernel_rfl) ?_
                  refine then_normal ?_
                  refine wp_ret ?_
                  exact rp_ret (v := .bool false) (by kernel_rfl) (by kernel_rfl) h
              · intro hb; refine wl_lit 46 (e := (((n3 : Nat) : Int) == 256)) (b := false) (by kernel_rfl) hb ?_
                replace h := h.2 (ne_of_beq_false hb)
                clear hb
                refine wl_end (by kernel_rfl) ?_
                refine then_normal ?_
                refine wp_ret ?_
                exact rp_ret (v := .bool false) (by kernel_rfl) (by kernel_rfl) h
            · intro hb; refine wl_lit 39 (e := (((n2 : Nat) : Int) == 2)) (b := false) (by kernel_rfl) hb ?_
              replace h := h.2 (ne_of_beq_false hb)
              clear hb
              refine wl_end (by kernel_rfl) ?_
              refine then_normal ?_
              refine wp_ret ?_
              exact rp_ret (v := .bool false) (by kernel_rfl) (by kernel_rfl) h
          · intro hb; refine wl_lit 34 (e := (x4 == 0)) (b := false) (by kernel_rfl) hb ?_
            replace h := h.2 (ne_of_beq_false hb)
            clear hb
            refine wl_end (by kernel_rfl) ?_
            refine then_normal ?_
            refine wp_ret ?_
            exact rp_ret (v := .bool false) (by kernel_rfl) (by kernel_rfl) h

/- carling/carlinglaw19.short -/
def S_8 (A1 : Option Addr) (n1 : Nat) (c1 : Nat) (w : World) (Q : Value → World → Prop) : Prop :=
  (0 : Int) ≤ 0 ∧ (0 : Int) ≤ (imin ((n1 : Nat) : Int) 40) ∧ (imin ((n1 : Nat) : Int) 40) ≤ ((c1 : Nat) : Int) ∧ ((c1 : Nat) : Int) ≤ ((c1 : Nat) : Int) ∧
  ∀ A2, A2 = cutA A1 0 c1 4 →
  Q (.slice A2 ((((imin ((n1 : Nat) : Int) 40)).toNat) - 0) (c1 - 0)) w
theorem L_8 (A1 : Option Addr) (n1 : Nat) (c1 : Nat) (w : World) (Q : Value → World → Prop) (h : S_8 A1 n1 c1 w Q) : Ret Tryz.prog 8 #[.slice A1 n1 c1] w Q := by
  unfold S_8 at h
  refine ret_of_wp Tryz.func8 rfl ?_
  refine wp_seq ?_
  refine wp_reg ?_
  refine wl_end (by kernel_rfl) ?_
  refine then_normal ?_
  refine wp_seq ?_
  refine wp_reg ?_
  refine wl_pure 4 (by kernel_rfl) ?_
  obtain ⟨h1, h2, h3, h4, h⟩ := h
  refine wl_op (op_sliceG (A := A1) (n := n1) (c := c1) (lo := 0) (hi := (imin ((n1 : Nat) : Int) 40)) (mx := ((c1 : Nat) : Int)) rfl (by kernel_rfl) (by kernel_rfl) (.inl ⟨rfl, rfl⟩) (.inr ⟨_, .i64, rfl, by kernel_rfl⟩) (.inl ⟨rfl, rfl⟩) (by simp) Tryz.underlying22 Tryz.sizeOf36 h1 h2 h3 h4 ?_)
  intro A2 e1; replace h := h A2 e1; clear h1 h2 h3 h4 e1
  refine wl_end (by kernel_rfl) ?_
  refine then_normal ?_
  refine wp_ret ?_
  exact rp_ret (v := .slice A2 ((((imin ((n1 : Nat) : Int) 40)).toNat) - 0) (c1 - 0)) (by kernel_rfl) (by kernel_rfl) h

/- carling/carlinglaw19.page -/
def S_9 (A1 : Option Addr) (n1 : Nat) (c1 : Nat) (w : World) (Q : Value → World → Prop) : Prop :=
  (0 : Int) ≤ 256 ∧ (256 : Int) ≤ 256 ∧ (1 : Int) * 256 ≤ 281474976710656 ∧
  ∀ b1 w1, b1 = w.heap.size → w1 = w.alloc (.cells (madeCells #[.int .u8 0] (256 * 1)) 5) →
  ∃ l1 : List Value, l1.length = Nat.min n1 256 * 1 ∧ RdS w1 A1 l1 ∧ One l1 ∧ Room w1 (some ⟨b1, 0, none⟩) 0 l1.length ∧
  ∀ w2, w2 = puts w1 (some ⟨b1, 0, none⟩) 0 l1 →
  Q (.slice (some ⟨b1, 0, none⟩) 256 256) w2
theorem L_9 (A1 : Option Addr) (n1 : Nat) (c1 : Nat) (w : World) (Q : Value → World → Prop) (h : S_9 A1 n1 c1 w Q) : Ret Tryz.prog 9 #[.slice A1 n1 c1] w Q := by
  unfold S_9 at h
  refine ret_of_wp Tryz.func9 rfl ?_
  refine wp_seq ?_
  refine wp_reg ?_
  refine wl_end (by kernel_rfl) ?_
  refine then_normal ?_
  refine wp_seq ?_
  refine wp_reg ?_
  obtain ⟨h1, h2, h3, h⟩ := h
  refine wl_op (op_make (kl := .i64) (kc := .i64) (l := 256) (c := 256) rfl (by kernel_rfl) (by kernel_rfl) (by kernel_rfl) Tryz.underlying33 Tryz.typeInfo5 rfl h1 h2 (by decide) h3 ?_)
  intro b1 w1 e1 e2; replace h := h b1 w1 e1 e2; clear h1 h2 h3 e1 e2
  refine wl_end (by kernel_rfl) ?_
  refine then_normal ?_
  refine wp_seq ?_
  refine wp_reg ?_
  refine wl_pure 2 (by kernel_rfl) ?_
  obtain ⟨l1, h1, h2, h3, h4, h⟩ := h
  refine wl_op (op_copy (A := (some ⟨b1, 0, none⟩)) (n := 256) (c := 256) (B := A1) (m := n1) (c2 := c1) (cs := l1) rfl (by kernel_rfl) (by kernel_rfl) (by kernel_rfl) Tryz.underlying33 Tryz.typeInfo5 h1 h2 h3 h4 ?_)
  intro w2 e1; replace h := h w2 e1; clear h1 h2 h3 h4 e1
  refine wl_nil ?_
  refine then_normal ?_
  refine wp_seq ?_
  refine wp_reg ?_
  refine wl_end (by kernel_rfl) ?_
  refine then_normal ?_
  refine wp_ret ?_
  exact rp_ret (v := .slice (some ⟨b1, 0, none⟩) 256 256) (by kernel_rfl) (by kernel_rfl) h

/- carling/carlingref19.Set -/
def S_10 (A1 : Option Addr) (n1 : Nat) (c1 : Nat) (x1 : Int) (A2 : Option Addr) (n2 : Nat) (c2 : Nat) (w : World) (Q : Value → World → Prop) : Prop :=
  (x1 < 0 →
    Q (.tuple #[.slice A1 n1 c1, .int .i64 1]) w) ∧
  (¬ x1 < 0 →
    (x1 ≥ ((n1 : Nat) : Int) →
      Q (.tuple #[.slice A1 n1 c1, .int .i64 1]) w) ∧
    (¬ x1 ≥ ((n1 : Nat) : Int) →
      (((n2 : Nat) : Int) ≠ 256 →
        Q (.tuple #[.slice A1 n1 c1, .int .i64 1]) w) ∧
      (((n2 : Nat) : Int) = 256 →
        ∃ l1 l2 : List Value, (0 + n1) * 24 ≤ 140737488355328 ∧ l1.length = 0 * 1 ∧ RdS w none l1 ∧ l2.length = n1 * 1 ∧ RdS w A1 l2 ∧ One l2 ∧ (0 + n1 ≤ 0 → Room w none (0 * 1) (n1 * 1)) ∧
        ∀ A3 c3 w1, Appended w 33 1 #[.slice none 0 0] none 0 0 n1 l1 l2 A3 c3 w1 →
        ∃ l3 l4 : List Value, (0 + n2) * 1 ≤ 140737488355328 ∧ l3.length = 0 * 1 ∧ RdS w1 none l3 ∧ l4.length = n2 * 1 ∧ RdS w1 A2 l4 ∧ One l4 ∧ (0 + n2 ≤ 0 → Room w1 none (0 * 1) (n2 * 1)) ∧
        ∀ A4 c4 w2, Appended w1 5 1 #[.int .u8 0] none 0 0 n2 l3 l4 A4 c4 w2 →
        ∃ b1 o1, A3 = some ⟨b1, o1, none⟩ ∧ (0 : Int) ≤ x1 ∧ x1 < (((0 + n1) : Nat) : Int) ∧
        (w2.cell? ⟨b1, (o1 + (x1).toNat * 1), none⟩).isSome = true ∧ w2.frozen? ⟨b1, (o1 + (x1).toNat * 1), none⟩ = false ∧
        ∀ w3, w3 = w2.setCell ⟨b1, (o1 + (x1).toNat * 1), none⟩ (.slice A4 (0 + n2) c4) →
        Q (.tuple #[.slice (some ⟨b1, o1, none⟩) (0 + n1) c3, .int .i64 0]) w3)))
theorem L_10 (A1 : Option Addr) (n1 : Nat) (c1 : Nat) (x1 : Int) (A2 : Option Addr) (n2 : Nat) (c2 : Nat) (w : World) (Q : Value → World → Prop) (h : S_10 A1 n1 c1 x1 A2 n2 c2 w Q) : Ret Tryz.prog 10 #[.slice A1 n1 c1, .int .i64 x1, .slice A2 n2 c2] w Q := by
  unfold S_10 at h
  refine ret_of_wp Tryz.func10 rfl ?_
  refine wp_seq ?_
  refine wp_reg ?_
  refine wl_end (by kernel_rfl) ?_
  refine then_normal ?_
  refine wp_seq ?_
  refine wp_seq ?_
  refine wp_reg ?_
  refine wl_pure 3 (by kernel_rfl) ?_
  refine wl_split (e := (decide (x1 < 0))) ?_ ?_
  · intro hb; refine wl_lit 11 (e := (decide (x1 < 0))) (b := true) (by kernel_rfl) hb ?_
    replace h := h.1 (of_decide_eq_true hb)
    clear hb
    refine wl_end (by kernel_rfl) ?_
    refine then_normal ?_
    refine wp_cond_true (by kernel_rfl) ?_
    refine wp_seq ?_
    refine wp_reg ?_
    refine wl_end (by kernel_rfl) ?_
    refine then_normal ?_
    refine wp_ret ?_
    refine then_ret ?_
    exact rp_ret (v := .tuple #[.slice A1 n1 c1, .int .i64 1]) (by kernel_rfl) (by kernel_rfl) h
  · intro hb; refine wl_lit 11 (e := (decide (x1 < 0))) (b := false) (by kernel_rfl) hb ?_
    replace h := h.2 (of_decide_eq_false hb)
    clear hb
    refine wl_pure 6 (by kernel_rfl) ?_
    refine wl_split (e := (decide (x1 ≥ ((n1 : Nat) : Int)))) ?_ ?_
    · intro hb; refine wl_lit 17 (e := (decide (x1 ≥ ((n1 : Nat) : Int)))) (b := true) (by kernel_rfl) hb ?_
      replace h := h.1 (of_decide_eq_true hb)
      clear hb
      refine wl_end (by kernel_rfl) ?_
      refine then_normal ?_
      refine wp_cond_true (by kernel_rfl) ?_
      refine wp_seq ?_
      refine wp_reg ?_
      refine wl_end (by kernel_rfl) ?_
      refine then_normal ?_
      refine wp_ret ?_
      refine then_ret ?_
      exact rp_ret (v := .tuple #[.slice A1 n1 c1, .int .i64 1]) (by kernel_rfl) (by kernel_rfl) h
    · intro hb; refine wl_lit 17 (e := (decide (x1 ≥ ((n1 : Nat) : Int)))) (b := false) (by kernel_rfl) hb ?_
      replace h := h.2 (of_decide_eq_false hb)
      clear hb
      refine wl_end (by kernel_rfl) ?_
      refine then_normal ?_
      refine wp_cond_split (t := (((n2 : Nat) : Int) != 256)) (by kernel_rfl) (fun hb => ?_) (fun hb => ?_)
      · replace h := h.1 (bne_iff_ne.1 hb)
        clear hb
        refine wp_seq ?_
        refine wp_reg ?_
        refine wl_end (by kernel_rfl) ?_
        refine then_normal ?_
        refine wp_ret ?_
        refine then_ret ?_
        exact rp_ret (v := .tuple #[.slice A1 n1 c1, .int .i64 1]) (by kernel_rfl) (by kernel_rfl) h
      · replace h := h.2 (bne_false hb)
        clear hb
        refine wp_skip ?_
        refine then_normal ?_
        refine wp_seq ?_
        refine wp_reg ?_
        refine wl_pure 1 (by kernel_rfl) ?_
        obtain ⟨l1, l2, h1, h2, h3, h4, h5, h6, h7, h⟩ := h
        refine wl_op (op_append (A := none) (n := 0) (c := 0) (B := A1) (m := n1) (c2 := c1) (olds := l1) (news := l2) rfl (by kernel_rfl) (by kernel_rfl) (by kernel_rfl) Tryz.underlying27 Tryz.underlying27 Tryz.typeInfo33 rfl (by decide) h1 h2 h3 h4 h5 h6 h7 ?_)
        intro A3 c3 w1 e1; replace h := h A3 c3 w1 e1; clear h1 h2 h3 h4 h5 h6 h7 e1
        refine wl_end (by kernel_rfl) ?_
        refine then_normal ?_
        refine wp_seq ?_
        refine wp_reg ?_
        refine wl_pure 3 (by kernel_rfl) ?_
        obtain ⟨l3, l4, h1, h2, h3, h4, h5, h6, h7, h⟩ := h
        refine wl_op (op_append (A := none) (n := 0) (c := 0) (B := A2) (m := n2) (c2 := c2) (olds := l3) (news := l4) rfl (by kernel_rfl) (by kernel_rfl) (by kernel_rfl) Tryz.underlying33 Tryz.underlying33 Tryz.typeInfo5 rfl (by decide) h1 h2 h3 h4 h5 h6 h7 ?_)
        intro A4 c4 w2 e1; replace h := h A4 c4 w2 e1; clear h1 h2 h3 h4 h5 h6 h7 e1
        obtain ⟨b1, o1, rfl, h⟩ := h
        obtain ⟨h1, h2, h⟩ := h
        refine wl_op (op_index (k := .i64) (j := x1) (b := b1) (off := o1) (n := (0 + n1)) (c := c3) rfl (by kernel_rfl) (by kernel_rfl) (by kernel_rfl) Tryz.underlying27 Tryz.sizeOf33 h1 h2 ?_)
        clear h1 h2
        obtain ⟨hc, hf, h⟩ := h
        refine wl_op (op_store (v := .slice A4 (0 + n2) c4) rfl (by kernel_rfl) (by kernel_rfl) (by kernel_rfl) Tryz.sizeOf33 rfl hc hf ?_)
        intro w3 e1; replace h := h w3 e1; clear hc hf e1
        refine wl_nil ?_
        refine then_normal ?_
        refine wp_seq ?_
        refine wp_reg ?_
        refine wl_end (by kernel_rfl) ?_
        refine then_normal ?_
        refine wp_ret ?_
        exact rp_ret (v := .tuple #[.slice (some ⟨b1, o1, none⟩) (0 + n1) c3, .int .i64 0]) (by kernel_rfl) (by kernel_rfl) h

/- (*carling/image.Image).Set -/
def S_11 (p1 : Option Addr) (x1 : Int) (A1 : Option Addr) (n1 : Nat) (c1 : Nat) (w : World) (Q : Value → World → Prop) : Prop :=
  Ret Tryz.prog 23 #[.pointer p1] w fun r1 w1 => ∃ (q1 : Bool), r1 = .bool q1 ∧ 
    (q1 = false →
      Q (.int .i64 2) w1) ∧
    (q1 = true →
      ∃ b1 o1, p1 = some ⟨b1, o1, none⟩ ∧
      ∃ (v1 : Value), w1.cell? ⟨b1, (o1 + 1), none⟩ = some (v1) ∧
      ∃ f1 v2, MethIs Tryz.prog v1 "Set" f1 v2 ∧
      Ret Tryz.prog f1 #[v2, .int .i64 x1, .slice A1 n1 c1] w1 fun r2 w2 => ∃ (x2 : Int), r2 = .int .i64 x2 ∧ 
        Q (.int .i64 x2) w2)
theorem L_11 (p1 : Option Addr) (x1 : Int) (A1 : Option Addr) (n1 : Nat) (c1 : Nat) (w : World) (Q : Value → World → Prop) (h : S_11 p1 x1 A1 n1 c1 w Q) : Ret Tryz.prog 11 #[.pointer p1, .int .i64 x1, .slice A1 n1 c1] w Q := by
  unfold S_11 at h
  refine ret_of_wp Tryz.func11 rfl ?_
  refine wp_seq ?_
  refine wp_reg ?_
  refine wl_end (by kernel_rfl) ?_
  refine then_normal ?_
  refine wp_seq ?_
  refine wp_seq ?_
  refine wp_reg ?_
  refine wl_pure 1 (by kernel_rfl) ?_
  refine wl_op (op_callf (args := #[.pointer p1]) rfl (by kernel_rfl) (by kernel_rfl) Tryz.call23 (Ret.mono h ?_))
  clear h; rintro r1 w1 ⟨q1, rfl, h⟩
  refine wl_end (by kernel_rfl) ?_
  refine then_normal ?_
  refine wp_cond_split (t := (!q1)) (by kernel_rfl) (fun hb => ?_) (fun hb => ?_)
  · replace h := h.1 ((not_flip hb))
    clear hb
    refine wp_seq ?_
    refine wp_reg ?_
    refine wl_end (by kernel_rfl) ?_
    refine then_normal ?_
    refine wp_ret ?_
    refine then_ret ?_
    exact rp_ret (v := .int .i64 2) (by kernel_rfl) (by kernel_rfl) h
  · replace h := h.2 ((not_flip hb))
    clear hb
    refine wp_skip ?_
    refine then_normal ?_
    refine wp_seq ?_
    refine wp_reg ?_
    refine wl_pure 1 (by kernel_rfl) ?_
    obtain ⟨b1, o1, rfl, h⟩ := h
    refine wl_op (op_pure (v := .pointer (some ⟨b1, o1, none⟩)) (by kernel_rfl) (by kernel_rfl) ?_)
    refine wl_pure 1 (by kernel_rfl) ?_
    obtain ⟨v1, hx, h⟩ := h
    refine wl_op (op_load (v := v1) rfl (by kernel_rfl) (by kernel_rfl) Tryz.isAgg62 hx ?_)
    clear hx
    refine wl_pure 2 (by kernel_rfl) ?_
    obtain ⟨f1, v2, h1, h⟩ := h
    refine wl_op (op_invoke (v := v1) (args := #[.int .i64 x1, .slice A1 n1 c1]) (argz := #[v2, .int .i64 x1, .slice A1 n1 c1]) rfl (by kernel_rfl) (by kernel_rfl) (by kernel_rfl) h1 (by kernel_rfl) (Ret.mono h ?_))
    clear h h1; rintro r2 w2 ⟨x2, rfl, h⟩
    refine wl_end (by kernel_rfl) ?_
    refine then_normal ?_
    refine wp_ret ?_
    exact rp_ret (v := .int .i64 x2) (by kernel_rfl) (by kernel_rfl) h

/- (*carling/image.Image).Page -/
def S_12 (p1 : Option Addr) (x1 : Int) (w : World) (Q : Value → World → Prop) : Prop :=
  Ret Tryz.prog 23 #[.pointer p1] w fun r1 w1 => ∃ (q1 : Bool), r1 = .bool q1 ∧ 
    (q1 = false →
      Q (.tuple #[.slice none 0 0, .int .i64 2]) w1) ∧
    (q1 = true →
      ∃ b1 o1, p1 = some ⟨b1, o1, none⟩ ∧
      ∃ (v1 : Value), w1.cell? ⟨b1, (o1 + 1), none⟩ = some (v1) ∧
      ∃ f1 v2, MethIs Tryz.prog v1 "Page" f1 v2 ∧
      Ret Tryz.prog f1 #[v2, .int .i64 x1] w1 fun r2 w2 => ∃ (A1 : Option Addr) (n1 : Nat) (c1 : Nat) (x2 : Int), r2 = .tuple #[.slice A1 n1 c1, .int .i64 x2] ∧ 
        Q (.tuple #[.slice A1 n1 c1, .int .i64 x2]) w2)
theorem L_12 (p1 : Option Addr) (x1 : Int) (w : World) (Q : Value → World → Prop) (h : S_12 p1 x1 w Q) : Ret Tryz.prog 12 #[.pointer p1, .int .i64 x1] w Q := by
  unfold S_12 at h
  refine ret_of_wp Tryz.func12 rfl ?_
  refine wp_seq ?_
  refine wp_reg ?_
  refine wl_end (by kernel_rfl) ?_
  refine then_normal ?_
  refine wp_seq ?_
  refine wp_seq ?_
  refine wp_reg ?_
  refine wl_pure 1 (by kernel_rfl) ?_
  refine wl_op (op_callf (args := #[.pointer p1]) rfl (by kernel_rfl) (by kernel_rfl) Tryz.call23 (Ret.mono h ?_))
  clear h; rintro r1 w1 ⟨q1, rfl, h⟩
  refine wl_end (by kernel_rfl) ?_
  refine then_normal ?_
  refine wp_cond_split (t := (!q1)) (by kernel_rfl) (fun hb => ?_) (fun hb => ?_)
  · replace h := h.1 ((not_flip hb))
    clear hb
    refine wp_seq ?_
    refine wp_reg ?_
    refine wl_end (by kernel_rfl) ?_
    refine then_normal ?_
    refine wp_ret ?_
    refine then_ret ?_
    exact rp_ret (v := .tuple #[.slice none 0 0, .int .i64 2]) (by kernel_rfl) (by kernel_rfl) h
  · replace h := h.2 ((not_flip hb))
    clear hb
    refine wp_skip ?_
    refine then_normal ?_
    refine wp_seq ?_
    refine wp_reg ?_
    refine wl_pure 1 (by kernel_rfl) ?_
    obtain ⟨b1, o1, rfl, h⟩ := h
    refine wl_op (op_pure (v := .pointer (some ⟨b1, o1, none⟩)) (by kernel_rfl) (by kernel_rfl) ?_)
    refine wl_pure 1 (by kernel_rfl) ?_
    obtain ⟨v1, hx, h⟩ := h
    refine wl_op (op_load (v := v1) rfl (by kernel_rfl) (by kernel_rfl) Tryz.isAgg62 hx ?_)
    clear hx
    refine wl_pure 1 (by kernel_rfl) ?_
    obtain ⟨f1, v2, h1, h⟩ := h
    refine wl_op (op_invoke (v := v1) (args := #[.int .i64 x1]) (argz := #[v2, .int .i64 x1]) rfl (by kernel_rfl) (by kernel_rfl) (by kernel_rfl) h1 (by kernel_rfl) (Ret.mono h ?_))
    clear h h1; rintro r2 w2 ⟨A1, n1, c1, x2, rfl, h⟩
    refine wl_end (by kernel_rfl) ?_
    refine then_normal ?_
    refine wp_ret ?_
    exact rp_ret (v := .tuple #[.slice A1 n1 c1, .int .i64 x2]) (by kernel_rfl) (by kernel_rfl) h

/- carling/carlingref02.Same -/
def S_13 (A1 : Option Addr) (n1 : Nat) (c1 : Nat) (A2 : Option Addr) (n2 : Nat) (c2 : Nat) (w : World) (Q : Value → World → Prop) : Prop :=
  (((n1 : Nat) : Int) ≠ ((n2 : Nat) : Int) →
    Q (.bool false) w) ∧
  (((n1 : Nat) : Int) = ((n2 : Nat) : Int) →
    ∃ (I1 : Int → World → Prop) (μ1 : Int → World → Nat), I1 0 w ∧
    ∀ (x1 : Int) (w1 : World), I1 x1 w1 →
      (x1 < ((n1 : Nat) : Int) →
        ∀ w2, w2 = w1.drew →
        ∃ b1 o1, A1 = some ⟨b1, o1, none⟩ ∧ (0 : Int) ≤ x1 ∧ x1 < ((n1 : Nat) : Int) ∧
        ∃ (x2 : Int), w1.cell? ⟨b1, (o1 + (x1).toNat * 1), none⟩ = some (.int .u8 x2) ∧
        ∃ b2 o2, A2 = some ⟨b2, o2, none⟩ ∧ (0 : Int) ≤ x1 ∧ x1 < ((n2 : Nat) : Int) ∧
        ∃ (x3 : Int), w1.cell? ⟨b2, (o2 + (x1).toNat * 1), none⟩ = some (.int .u8 x3) ∧
        (x2 ≠ x3 →
          Q (.bool false) w2) ∧
        (x2 = x3 →
          I1 (IntKind.i64.wrap (x1 + 1)) w2 ∧ μ1 (IntKind.i64.wrap (x1 + 1)) w2 < μ1 x1 w1)) ∧
      (¬ x1 < ((n1 : Nat) : Int) →
        Q (.bool true) w1))
theorem L_13 (A1 : Option Addr) (n1 : Nat) (c1 : Nat) (A2 : Option Addr) (n2 : Nat) (c2 : Nat) (w : World) (Q : Value → World → Prop) (h : S_13 A1 n1 c1 A2 n2 c2 w Q) : Ret Tryz.prog 13 #[.slice A1 n1 c1, .slice A2 n2 c2] w Q := by
  unfold S_13 at h
  refine ret_of_wp Tryz.func13 rfl ?_
  refine wp_seq ?_
  refine wp_reg ?_
  refine wl_end (by kernel_rfl) ?_
  refine then_normal ?_
  refine wp_seq ?_
  refine wp_seq ?_
  refine wp_reg ?_
  refine wl_end (by kernel_rfl) ?_
  refine then_normal ?_
  refine wp_cond_split (t := (((n1 : Nat) : Int) != ((n2 : Nat) : Int))) (by kernel_rfl) (fun hb => ?_) (fun hb => ?_)
  · replace h := h.1 (bne_iff_ne.1 hb)
    clear hb
    refine wp_seq ?_
    refine wp_reg ?_
    refine wl_end (by kernel_rfl) ?_
    refine then_normal ?_
    refine wp_ret ?_
    refine then_ret ?_
    exact rp_ret (v := .bool false) (by kernel_rfl) (by kernel_rfl) h
  · replace h := h.2 (bne_false hb)
    clear hb
    refine wp_skip ?_
    refine then_normal ?_
    refine wp_seq ?_
    refine wp_seq ?_
    refine wp_reg ?_
    refine wl_end (by kernel_rfl) ?_
    refine then_normal ?_
    refine wp_block ?_
    obtain ⟨I1, μ1, hI1, hB1⟩ := h
    refine wp_loop_st (σ := Int) (fun s a => ∃ u1 : Nat → Value, a = ⟨#[.slice A1 n1 c1, .slice A2 n2 c2, undef, undef, u1 4, .int .i64 s, .slice A1 n1 c1, .int .i64 ((n1 : Nat) : Int), .slice A2 n2 c2, .int .i64 ((n2 : Nat) : Int), .bool (((n1 : Nat) : Int) != ((n2 : Nat) : Int)), u1 11, u1 12, u1 13, u1 14, u1 15, u1 16, u1 17, u1 18, u1 19, u1 20, u1 21, u1 22, u1 23, u1 24, u1 25], []⟩) (fun s w => I1 s w) (fun s w => μ1 s w) (0) (enc_intro (by kernel_rfl)) hI1 ?_
    clear hI1
    rintro x1 a w1 ⟨u1, rfl⟩ hI1
    have h := hB1 x1 w1 hI1
    clear hI1 hB1
    refine wp_seq ?_
    refine wp_seq ?_
    refine wp_reg ?_
    refine wl_end (by kernel_rfl) ?_
    refine then_normal ?_
    refine wp_cond_split (t := (decide (x1 < ((n1 : Nat) : Int)))) (by kernel_rfl) (fun hb => ?_) (fun hb => ?_)
    · replace h := h.1 (of_decide_eq_true hb)
      clear hb
      refine wp_skip ?_
      refine then_normal ?_
      refine wp_seq ?_
      refine wp_block ?_
      refine wp_seq ?_
      refine wd_begin (by kernel_rfl) (Keep w1) [] ?_
      intro w2 e1; have hK1 := keep_drew e1; replace h := h w2 e1; clear e1
      refine wd_takeP 0 rfl (by kernel_rfl) (fun _ _ _ h => h) (y_pure (v := .slice A1 n1 c1) (by kernel_rfl) (by kernel_rfl)) ?_
      refine wd_takeP 1 rfl (by kernel_rfl) (fun _ _ _ h => h) (y_pure (v := .int .i64 x1) (by kernel_rfl) (by kernel_rfl)) ?_
      obtain ⟨b1, o1, rfl, h⟩ := h
      obtain ⟨h1, h2, h⟩ := h
      refine wd_takeP 2 rfl (by kernel_rfl) (fun _ _ _ h => h) (y_index (k := .i64) (j := x1) (b := b1) (off := o1) (n := n1) (c := c1) rfl (by kernel_rfl) (by kernel_rfl) (by kernel_rfl) Tryz.underlying33 Tryz.sizeOf5 h1 h2) ?_
      clear h1 h2
      obtain ⟨x2, hx, h⟩ := h
      refine wd_take 3 rfl (by kernel_rfl) (fun _ _ _ h => h) (y_load (v := .int .u8 x2) rfl (by kernel_rfl) (by kernel_rfl) Tryz.isAgg5 (fun _ hk => keep_cell hk hx)) hK1 ?_
      clear hx
      refine wd_takeP 4 rfl (by kernel_rfl) (fun _ _ _ h => h) (y_pure (v := .slice A2 n2 c2) (by kernel_rfl) (by kernel_rfl)) ?_
      refine wd_takeP 5 rfl (by kernel_rfl) (fun _ _ _ h => h) (y_pure (v := .int .i64 x1) (by kernel_rfl) (by kernel_rfl)) ?_
      obtain ⟨b2, o2, rfl, h⟩ := h
      obtain ⟨h1, h2, h⟩ := h
      refine wd_takeP 6 rfl (by kernel_rfl) (fun _ _ _ h => h) (y_index (k := .i64) (j := x1) (b := b2) (off := o2) (n := n2) (c := c2) rfl (by kernel_rfl) (by kernel_rfl) (by kernel_rfl) Tryz.underlying33 Tryz.sizeOf5 h1 h2) ?_
      clear h1 h2
      obtain ⟨x3, hx, h⟩ := h
      refine wd_take 7 rfl (by kernel_rfl) (fun _ _ _ h => h) (y_load (v := .int .u8 x3) rfl (by kernel_rfl) (by kernel_rfl) Tryz.isAgg5 (fun _ hk => keep_cell hk hx)) hK1 ?_
      clear hx
      refine wd_takeP 8 rfl (by kernel_rfl) (fun _ _ _ h => h) (y_pure (v := .bool (x2 != x3)) (by kernel_rfl) (by kernel_rfl)) ?_
      refine wd_done (by kernel_rfl) ?_
      refine then_normal ?_
      refine wp_cond_split (t := (x2 != x3)) (by kernel_rfl) (fun hb => ?_) (fun hb => ?_)
      · replace h := h.1 (bne_iff_ne.1 hb)
        clear hb
        refine wp_seq ?_
        refine wp_reg ?_
        refine wl_end (by kernel_rfl) ?_
        refine then_normal ?_
        refine wp_ret ?_
        refine block_ret ?_
        refine then_ret ?_
        refine then_ret ?_
        refine block_ret ?_
        refine then_ret ?_
        exact rp_ret (v := .bool false) (by kernel_rfl) (by kernel_rfl) h
      · replace h := h.2 (bne_false hb)
        clear hb
        refine wp_skip ?_
        refine block_normal ?_
        refine then_normal ?_
        refine wp_reg ?_
        refine wl_end (by kernel_rfl) ?_
        refine then_normal ?_
        exact ⟨((IntKind.i64.wrap (x1 + 1))), enc_intro (by kernel_rfl), h.1, h.2⟩
    · replace h := h.2 (of_decide_eq_false hb)
      clear hb
      refine wp_exit ?_
      refine then_exit ?_
      refine then_exit ?_
      refine block_exit_eq ?_
      refine then_normal ?_
      refine wp_seq ?_
      refine wp_reg ?_
      refine wl_end (by kernel_rfl) ?_
      refine then_normal ?_
      refine wp_ret ?_
      exact rp_ret (v := .bool true) (by kernel_rfl) (by kernel_rfl) h

/- (*carling/image.Image).Plan -/
def S_14 (p1 : Option Addr) (x1 : Int) (w : World) (Q : Value → World → Prop) : Prop :=
  ∀ b1 w1, b1 = w.heap.size → w1 = w.alloc (.cells ([.int .i64 0, .int .u32 0, .int .u8 0, .int .u8 0, .int .u8 0, .int .u8 0, .int .u8 0, .int .u8 0, .int .u8 0, .int .u8 0, .int .u8 0, .int .u8 0, .int .u8 0, .int .u8 0, .int .u8 0, .int .u8 0, .int .u8 0, .int .u8 0, .int .u8 0, .int .u8 0, .int .u8 0, .int .u8 0, .int .u8 0, .int .u8 0, .int .u8 0, .int .u8 0, .int .u8 0, .int .u8 0, .int .u8 0, .int .u8 0, .int .u8 0, .int .u8 0, .int .u8 0, .int .u8 0] : List Value).toArray 46) →
  Ret Tryz.prog 23 #[.pointer p1] w1 fun r1 w2 => ∃ (q1 : Bool), r1 = .bool q1 ∧ 
    (q1 = false →
      w2.there b1 0 34 ∧
      ∀ w3, w3 = w2.setCells b1 0 ([.int .i64 0, .int .u32 0, .int .u8 0, .int .u8 0, .int .u8 0, .int .u8 0, .int .u8 0, .int .u8 0, .int .u8 0, .int .u8 0, .int .u8 0, .int .u8 0, .int .u8 0, .int .u8 0, .int .u8 0, .int .u8 0, .int .u8 0, .int .u8 0, .int .u8 0, .int .u8 0, .int .u8 0, .int .u8 0, .int .u8 0, .int .u8 0, .int .u8 0, .int .u8 0, .int .u8 0, .int .u8 0, .int .u8 0, .int .u8 0, .int .u8 0, .int .u8 0, .int .u8 0, .int .u8 0] : List Value) →
      ∃ (x2 : Int) (x3 : Int) (d1 : List Value), d1.length = 32 ∧ w3.rangeAt b1 0 (([.int .i64 x2, .int .u32 x3] : List Value) ++ d1) ∧ Q (.tuple #[.slice none 0 0, .agg (([.int .i64 x2, .int .u32 x3] : List Value) ++ d1).toArray, .int .i64 2]) w3) ∧
    (q1 = true →
      ∃ b2 o1, p1 = some ⟨b2, o1, none⟩ ∧
      ∃ (v1 : Value), w2.cell? ⟨b2, (o1 + 1), none⟩ = some (v1) ∧
      ∃ f1 v2, MethIs Tryz.prog v1 "Plan" f1 v2 ∧
      Ret Tryz.prog f1 #[v2, .int .u32 x1] w2 fun r2 w4 => ∃ (A1 : Option Addr) (n1 : Nat) (c1 : Nat) (x4 : Int) (x5 : Int) (d2 : List Value) (x6 : Int), r2 = .tuple #[.slice A1 n1 c1, .agg (([.int .i64 x4, .int .u32 x5] : List Value) ++ d2).toArray, .int .i64 x6] ∧ d2.length = 32 ∧ 
        (([.int .i64 x4, .int .u32 x5] : List Value) ++ d2).length = 34 ∧ One (([.int .i64 x4, .int .u32 x5] : List Value) ++ d2) ∧ w4.there b1 0 34 ∧
        ∀ w5, w5 = w4.setCells b1 0 (([.int .i64 x4, .int .u32 x5] : List Value) ++ d2) →
        ∃ (x7 : Int) (x8 : Int) (d3 : List Value), d3.length = 32 ∧ w5.rangeAt b1 0 (([.int .i64 x7, .int .u32 x8] : List Value) ++ d3) ∧ Q (.tuple #[.slice A1 n1 c1, .agg (([.int .i64 x7, .int .u32 x8] : List Value) ++ d3).toArray, .int .i64 x6]) w5)
theorem L_14 (p1 : Option Addr) (x1 : Int) (w : World) (Q : Value → World → Prop) (h : S_14 p1 x1 w Q) : Ret Tryz.prog 14 #[.pointer p1, .int .u32 x1] w Q := by
  unfold S_14 at h
  refine ret_of_wp Tryz.func14 rfl ?_
  refine wp_seq ?_
  refine wp_reg ?_
  refine wl_pure 1 (by kernel_rfl) ?_
  refine wl_op (op_alloc rfl (by kernel_rfl) Tryz.zeroValue46 ?_)
  intro b1 w1 e1 e2; replace h := h b1 w1 e1 e2; clear e1 e2
  refine wl_end (by kernel_rfl) ?_
  refine then_normal ?_
  refine wp_seq ?_
  refine wp_seq ?_
  refine wp_reg ?_
  refine wl_pure 1 (by kernel_rfl) ?_
  refine wl_op (op_callf (args := #[.pointer p1]) rfl (by kernel_rfl) (by kernel_rfl) Tryz.call23 (Ret.mono h ?_))
  clear h; rintro r1 w2 ⟨q1, rfl, h⟩
  refine wl_end (by kernel_rfl) ?_
  refine then_normal ?_
  refine wp_cond_split (t := (!q1)) (by kernel_rfl) (fun hb => ?_) (fun hb => ?_)
  · replace h := h.1 ((not_flip hb))
    clear hb
    refine wp_seq ?_
    refine wp_reg ?_
    refine wl_pure 2 (by kernel_rfl) ?_
    obtain ⟨hw, h⟩ := h
    refine wl_op (op_storeN (cs := ([.int .i64 0, .int .u32 0, .int .u8 0, .int .u8 0, .int .u8 0, .int .u8 0, .int .u8 0, .int .u8 0, .int .u8 0, .int .u8 0, .int .u8 0, .int .u8 0, .int .u8 0, .int .u8 0, .int .u8 0, .int .u8 0, .int .u8 0, .int .u8 0, .int .u8 0, .int .u8 0, .int .u8 0, .int .u8 0, .int .u8 0, .int .u8 0, .int .u8 0, .int .u8 0, .int .u8 0, .int .u8 0, .int .u8 0, .int .u8 0, .int .u8 0, .int .u8 0, .int .u8 0, .int .u8 0] : List Value)) rfl (by kernel_rfl) (by kernel_rfl) (by kernel_rfl) Tryz.sizeOf46 rfl (one_of (by kernel_rfl)) hw ?_)
    intro w3 e1; replace h := h w3 e1; clear hw e1
    refine wl_end (by kernel_rfl) ?_
    refine then_normal ?_
    refine wp_ret ?_
    refine then_ret ?_
    obtain ⟨x2, x3, d1, hl0_0, hx0, h⟩ := h
    exact rp_retR (vs := [.slice none 0 0, .agg (([.int .i64 x2, .int .u32 x3] : List Value) ++ d1).toArray, .int .i64 2]) (v := .tuple #[.slice none 0 0, .agg (([.int .i64 x2, .int .u32 x3] : List Value) ++ d1).toArray, .int .i64 2]) Tryz.results14 ⟨res_tmp (by kernel_rfl), ⟨b1, 0, by kernel_rfl, run_loadN Tryz.isAgg46 Tryz.sizeOf46 (by simp [hl0_0]) hx0⟩, res_tmp (by kernel_rfl), trivial⟩ (by kernel_rfl) (by kernel_rfl) h
  · replace h := h.2 ((not_flip hb))
    clear hb
    refine wp_skip ?_
    refine then_normal ?_
    refine wp_seq ?_
    refine wp_reg ?_
    refine wl_pure 1 (by kernel_rfl) ?_
    obtain ⟨b2, o1, rfl, h⟩ := h
    refine wl_op (op_pure (v := .pointer (some ⟨b2, o1, none⟩)) (by kernel_rfl) (by kernel_rfl) ?_)
    refine wl_pure 1 (by kernel_rfl) ?_
    obtain ⟨v1, hx, h⟩ := h
    refine wl_op (op_load (v := v1) rfl (by kernel_rfl) (by kernel_rfl) Tryz.isAgg62 hx ?_)
    clear hx
    refine wl_pure 1 (by kernel_rfl) ?_
    obtain ⟨f1, v2, h1, h⟩ := h
    refine wl_op (op_invoke (v := v1) (args := #[.int .u32 x1]) (argz := #[v2, .int .u32 x1]) rfl (by kernel_rfl) (by kernel_rfl) (by kernel_rfl) h1 (by kernel_rfl) (Ret.mono h ?_))
    clear h h1; rintro r2 w4 ⟨A1, n1, c1, x4, x5, d2, x6, rfl, hl0, h⟩
    refine wl_pure 4 (by kernel_rfl) ?_
    obtain ⟨hl, h1, hw, h⟩ := h
    refine wl_op (op_storeN (cs := (([.int .i64 x4, .int .u32 x5] : List Value) ++ d2)) rfl (by kernel_rfl) (by kernel_rfl) (by kernel_rfl) Tryz.sizeOf46 hl h1 hw ?_)
    intro w5 e1; replace h := h w5 e1; clear hl h1 hw e1
    refine wl_end (by kernel_rfl) ?_
    refine then_normal ?_
    refine wp_ret ?_
    obtain ⟨x7, x8, d3, hl0_0, hx0, h⟩ := h
    exact rp_retR (vs := [.slice A1 n1 c1, .agg (([.int .i64 x7, .int .u32 x8] : List Value) ++ d3).toArray, .int .i64 x6]) (v := .tuple #[.slice A1 n1 c1, .agg (([.int .i64 x7, .int .u32 x8] : List Value) ++ d3).toArray, .int .i64 x6]) Tryz.results14 ⟨res_tmp (by kernel_rfl), ⟨b1, 0, by kernel_rfl, run_loadN Tryz.isAgg46 Tryz.sizeOf46 (by simp [hl0_0]) hx0⟩, res_tmp (by kernel_rfl), trivial⟩ (by kernel_rfl) (by kernel_rfl) h

/- (*carling/image.Image).Dirty -/
def S_15 (p1 : Option Addr) (w : World) (Q : Value → World → Prop) : Prop :=
  Ret Tryz.prog 23 #[.pointer p1] w fun r1 w1 => ∃ (q1 : Bool), r1 = .bool q1 ∧ 
    (q1 = false →
      Q (.slice none 0 0) w1) ∧
    (q1 = true →
      ∃ b1 o1, p1 = some ⟨b1, o1, none⟩ ∧
      ∃ (v1 : Value), w1.cell? ⟨b1, (o1 + 1), none⟩ = some (v1) ∧
      ∃ f1 v2, MethIs Tryz.prog v1 "Dirty" f1 v2 ∧
      Ret Tryz.prog f1 #[v2] w1 fun r2 w2 => ∃ (A1 : Option Addr) (n1 : Nat) (c1 : Nat), r2 = .slice A1 n1 c1 ∧ 
        Q (.slice A1 n1 c1) w2)
theorem L_15 (p1 : Option Addr) (w : World) (Q : Value → World → Prop) (h : S_15 p1 w Q) : Ret Tryz.prog 15 #[.pointer p1] w Q := by
  unfold S_15 at h
  refine ret_of_wp Tryz.func15 rfl ?_
  refine wp_seq ?_
  refine wp_reg ?_
  refine wl_end (by kernel_rfl) ?_
  refine then_normal ?_
  refine wp_seq ?_
  refine wp_seq ?_
  refine wp_reg ?_
  refine wl_pure 1 (by kernel_rfl) ?_
  refine wl_op (op_callf (args := #[.pointer p1]) rfl (by kernel_rfl) (by kernel_rfl) Tryz.call23 (Ret.mono h ?_))
  clear h; rintro r1 w1 ⟨q1, rfl, h⟩
  refine wl_end (by kernel_rfl) ?_
  refine then_normal ?_
  refine wp_cond_split (t := (!q1)) (by kernel_rfl) (fun hb => ?_) (fun hb => ?_)
  · replace h := h.1 ((not_flip hb))
    clear hb
    refine wp_seq ?_
    refine wp_reg ?_
    refine wl_end (by kernel_rfl) ?_
    refine then_normal ?_
    refine wp_ret ?_
    refine then_ret ?_
    exact rp_ret (v := .slice none 0 0) (by kernel_rfl) (by kernel_rfl) h
  · replace h := h.2 ((not_flip hb))
    clear hb
    refine wp_skip ?_
    refine then_normal ?_
    refine wp_seq ?_
    refine wp_reg ?_
    refine wl_pure 1 (by kernel_rfl) ?_
    obtain ⟨b1, o1, rfl, h⟩ := h
    refine wl_op (op_pure (v := .pointer (some ⟨b1, o1, none⟩)) (by kernel_rfl) (by kernel_rfl) ?_)
    refine wl_pure 1 (by kernel_rfl) ?_
    obtain ⟨v1, hx, h⟩ := h
    refine wl_op (op_load (v := v1) rfl (by kernel_rfl) (by kernel_rfl) Tryz.isAgg62 hx ?_)
    clear hx
    obtain ⟨f1, v2, h1, h⟩ := h
    refine wl_op (op_invoke (v := v1) (args := #[]) (argz := #[v2]) rfl (by kernel_rfl) (by kernel_rfl) (by kernel_rfl) h1 (by kernel_rfl) (Ret.mono h ?_))
    clear h h1; rintro r2 w2 ⟨A1, n1, c1, rfl, h⟩
    refine wl_end (by kernel_rfl) ?_
    refine then_normal ?_
    refine wp_ret ?_
    exact rp_ret (v := .slice A1 n1 c1) (by kernel_rfl) (by kernel_rfl) h

/- (*carling/image.Image).Done -/
def S_16 (p1 : Option Addr) (w : World) (Q : Value → World → Prop) : Prop :=
  Ret Tryz.prog 23 #[.pointer p1] w fun r1 w1 => ∃ (q1 : Bool), r1 = .bool q1 ∧ 
    (q1 = false →
      Q (.int .i64 2) w1) ∧
    (q1 = true →
      ∃ b1 o1, p1 = some ⟨b1, o1, none⟩ ∧
      ∃ (v1 : Value), w1.cell? ⟨b1, (o1 + 1), none⟩ = some (v1) ∧
      ∃ f1 v2, MethIs Tryz.prog v1 "Done" f1 v2 ∧
      Ret Tryz.prog f1 #[v2] w1 fun r2 w2 => ∃ (x1 : Int), r2 = .int .i64 x1 ∧ 
        Q (.int .i64 x1) w2)
theorem L_16 (p1 : Option Addr) (w : World) (Q : Value → World → Prop) (h : S_16 p1 w Q) : Ret Tryz.prog 16 #[.pointer p1] w Q := by
  unfold S_16 at h
  refine ret_of_wp Tryz.func16 rfl ?_
  refine wp_seq ?_
  refine wp_reg ?_
  refine wl_end (by kernel_rfl) ?_
  refine then_normal ?_
  refine wp_seq ?_
  refine wp_seq ?_
  refine wp_reg ?_
  refine wl_pure 1 (by kernel_rfl) ?_
  refine wl_op (op_callf (args := #[.pointer p1]) rfl (by kernel_rfl) (by kernel_rfl) Tryz.call23 (Ret.mono h ?_))
  clear h; rintro r1 w1 ⟨q1, rfl, h⟩
  refine wl_end (by kernel_rfl) ?_
  refine then_normal ?_
  refine wp_cond_split (t := (!q1)) (by kernel_rfl) (fun hb => ?_) (fun hb => ?_)
  · replace h := h.1 ((not_flip hb))
    clear hb
    refine wp_seq ?_
    refine wp_reg ?_
    refine wl_end (by kernel_rfl) ?_
    refine then_normal ?_
    refine wp_ret ?_
    refine then_ret ?_
    exact rp_ret (v := .int .i64 2) (by kernel_rfl) (by kernel_rfl) h
  · replace h := h.2 ((not_flip hb))
    clear hb
    refine wp_skip ?_
    refine then_normal ?_
    refine wp_seq ?_
    refine wp_reg ?_
    refine wl_pure 1 (by kernel_rfl) ?_
    obtain ⟨b1, o1, rfl, h⟩ := h
    refine wl_op (op_pure (v := .pointer (some ⟨b1, o1, none⟩)) (by kernel_rfl) (by kernel_rfl) ?_)
    refine wl_pure 1 (by kernel_rfl) ?_
    obtain ⟨v1, hx, h⟩ := h
    refine wl_op (op_load (v := v1) rfl (by kernel_rfl) (by kernel_rfl) Tryz.isAgg62 hx ?_)
    clear hx
    obtain ⟨f1, v2, h1, h⟩ := h
    refine wl_op (op_invoke (v := v1) (args := #[]) (argz := #[v2]) rfl (by kernel_rfl) (by kernel_rfl) (by kernel_rfl) h1 (by kernel_rfl) (Ret.mono h ?_))
    clear h h1; rintro r2 w2 ⟨x1, rfl, h⟩
    refine wl_end (by kernel_rfl) ?_
    refine then_normal ?_
    refine wp_ret ?_
    exact rp_ret (v := .int .i64 x1) (by kernel_rfl) (by kernel_rfl) h

/- (*carling/image.Image).Root -/
def S_17 (p1 : Option Addr) (w : World) (Q : Value → World → Prop) : Prop :=
  ∀ b1 w1, b1 = w.heap.size → w1 = w.alloc (.cells ([.int .i64 0, .int .u32 0, .int .u8 0, .int .u8 0, .int .u8 0, .int .u8 0, .int .u8 0, .int .u8 0, .int .u8 0, .int .u8 0, .int .u8 0, .int .u8 0, .int .u8 0, .int .u8 0, .int .u8 0, .int .u8 0, .int .u8 0, .int .u8 0, .int .u8 0, .int .u8 0, .int .u8 0, .int .u8 0, .int .u8 0, .int .u8 0, .int .u8 0, .int .u8 0, .int .u8 0, .int .u8 0, .int .u8 0, .int .u8 0, .int .u8 0, .int .u8 0, .int .u8 0, .int .u8 0] : List Value).toArray 46) →
  Ret Tryz.prog 23 #[.pointer p1] w1 fun r1 w2 => ∃ (q1 : Bool), r1 = .bool q1 ∧ 
    (q1 = false →
      w2.there b1 0 34 ∧
      ∀ w3, w3 = w2.setCells b1 0 ([.int .i64 0, .int .u32 0, .int .u8 0, .int .u8 0, .int .u8 0, .int .u8 0, .int .u8 0, .int .u8 0, .int .u8 0, .int .u8 0, .int .u8 0, .int .u8 0, .int .u8 0, .int .u8 0, .int .u8 0, .int .u8 0, .int .u8 0, .int .u8 0, .int .u8 0, .int .u8 0, .int .u8 0, .int .u8 0, .int .u8 0, .int .u8 0, .int .u8 0, .int .u8 0, .int .u8 0, .int .u8 0, .int .u8 0, .int .u8 0, .int .u8 0, .int .u8 0, .int .u8 0, .int .u8 0] : List Value) →
      ∃ (x1 : Int) (x2 : Int) (d1 : List Value), d1.length = 32 ∧ w3.rangeAt b1 0 (([.int .i64 x1, .int .u32 x2] : List Value) ++ d1) ∧ Q (.agg (([.int .i64 x1, .int .u32 x2] : List Value) ++ d1).toArray) w3) ∧
    (q1 = true →
      ∃ b2 o1, p1 = some ⟨b2, o1, none⟩ ∧
      ∃ (v1 : Value), w2.cell? ⟨b2, (o1 + 1), none⟩ = some (v1) ∧
      ∃ f1 v2, MethIs Tryz.prog v1 "Root" f1 v2 ∧
      Ret Tryz.prog f1 #[v2] w2 fun r2 w4 => ∃ (x3 : Int) (x4 : Int) (d2 : List Value), r2 = .agg (([.int .i64 x3, .int .u32 x4] : List Value) ++ d2).toArray ∧ d2.length = 32 ∧ 
        (([.int .i64 x3, .int .u32 x4] : List Value) ++ d2).length = 34 ∧ One (([.int .i64 x3, .int .u32 x4] : List Value) ++ d2) ∧ w4.there b1 0 34 ∧
        ∀ w5, w5 = w4.setCells b1 0 (([.int .i64 x3, .int .u32 x4] : List Value) ++ d2) →
        ∃ (x5 : Int) (x6 : Int) (d3 : List Value), d3.length = 32 ∧ w5.rangeAt b1 0 (([.int .i64 x5, .int .u32 x6] : List Value) ++ d3) ∧ Q (.agg (([.int .i64 x5, .int .u32 x6] : List Value) ++ d3).toArray) w5)
theorem L_17 (p1 : Option Addr) (w : World) (Q : Value → World → Prop) (h : S_17 p1 w Q) : Ret Tryz.prog 17 #[.pointer p1] w Q := by
  unfold S_17 at h
  refine ret_of_wp Tryz.func17 rfl ?_
  refine wp_seq ?_
  refine wp_reg ?_
  refine wl_op (op_alloc rfl (by kernel_rfl) Tryz.zeroValue46 ?_)
  intro b1 w1 e1 e2; replace h := h b1 w1 e1 e2; clear e1 e2
  refine wl_nil ?_
  refine then_normal ?_
  refine wp_seq ?_
  refine wp_seq ?_
  refine wp_reg ?_
  refine wl_pure 1 (by kernel_rfl) ?_
  refine wl_op (op_callf (args := #[.pointer p1]) rfl (by kernel_rfl) (by kernel_rfl) Tryz.call23 (Ret.mono h ?_))
  clear h; rintro r1 w2 ⟨q1, rfl, h⟩
  refine wl_end (by kernel_rfl) ?_
  refine then_normal ?_
  refine wp_cond_split (t := (!q1)) (by kernel_rfl) (fun hb => ?_) (fun hb => ?_)
  · replace h := h.1 ((not_flip hb))
    clear hb
    refine wp_seq ?_
    refine wp_reg ?_
    refine wl_pure 1 (by kernel_rfl) ?_
    obtain ⟨hw, h⟩ := h
    refine wl_op (op_storeN (cs := ([.int .i64 0, .int .u32 0, .int .u8 0, .int .u8 0, .int .u8 0, .int .u8 0, .int .u8 0, .int .u8 0, .int .u8 0, .int .u8 0, .int .u8 0, .int .u8 0, .int .u8 0, .int .u8 0, .int .u8 0, .int .u8 0, .int .u8 0, .int .u8 0, .int .u8 0, .int .u8 0, .int .u8 0, .int .u8 0, .int .u8 0, .int .u8 0, .int .u8 0, .int .u8 0, .int .u8 0, .int .u8 0, .int .u8 0, .int .u8 0, .int .u8 0, .int .u8 0, .int .u8 0, .int .u8 0] : List Value)) rfl (by kernel_rfl) (by kernel_rfl) (by kernel_rfl) Tryz.sizeOf46 rfl (one_of (by kernel_rfl)) hw ?_)
    intro w3 e1; replace h := h w3 e1; clear hw e1
    refine wl_nil ?_
    refine then_normal ?_
    refine wp_ret ?_
    refine then_ret ?_
    obtain ⟨x1, x2, d1, hl0_0, hx0, h⟩ := h
    exact rp_retR (vs := [.agg (([.int .i64 x1, .int .u32 x2] : List Value) ++ d1).toArray]) (v := .agg (([.int .i64 x1, .int .u32 x2] : List Value) ++ d1).toArray) Tryz.results17 ⟨⟨b1, 0, by kernel_rfl, run_loadN Tryz.isAgg46 Tryz.sizeOf46 (by simp [hl0_0]) hx0⟩, trivial⟩ (by kernel_rfl) (by kernel_rfl) h
  · replace h := h.2 ((not_flip hb))
    clear hb
    refine wp_skip ?_
    refine then_normal ?_
    refine wp_seq ?_
    refine wp_reg ?_
    refine wl_pure 1 (by kernel_rfl) ?_
    obtain ⟨b2, o1, rfl, h⟩ := h
    refine wl_op (op_pure (v := .pointer (some ⟨b2, o1, none⟩)) (by kernel_rfl) (by kernel_rfl) ?_)
    refine wl_pure 1 (by kernel_rfl) ?_
    obtain ⟨v1, hx, h⟩ := h
    refine wl_op (op_load (v := v1) rfl (by kernel_rfl) (by kernel_rfl) Tryz.isAgg62 hx ?_)
    clear hx
    obtain ⟨f1, v2, h1, h⟩ := h
    refine wl_op (op_invoke (v := v1) (args := #[]) (argz := #[v2]) rfl (by kernel_rfl) (by kernel_rfl) (by kernel_rfl) h1 (by kernel_rfl) (Ret.mono h ?_))
    clear h h1; rintro r2 w4 ⟨x3, x4, d2, rfl, hl0, h⟩
    obtain ⟨hl, h1, hw, h⟩ := h
    refine wl_op (op_storeN (cs := (([.int .i64 x3, .int .u32 x4] : List Value) ++ d2)) rfl (by kernel_rfl) (by kernel_rfl) (by kernel_rfl) Tryz.sizeOf46 hl h1 hw ?_)
    intro w5 e1; replace h := h w5 e1; clear hl h1 hw e1
    refine wl_nil ?_
    refine then_normal ?_
    refine wp_ret ?_
    obtain ⟨x5, x6, d3, hl0_0, hx0, h⟩ := h
    exact rp_retR (vs := [.agg (([.int .i64 x5, .int .u32 x6] : List Value) ++ d3).toArray]) (v := .agg (([.int .i64 x5, .int .u32 x6] : List Value) ++ d3).toArray) Tryz.results17 ⟨⟨b1, 0, by kernel_rfl, run_loadN Tryz.isAgg46 Tryz.sizeOf46 (by simp [hl0_0]) hx0⟩, trivial⟩ (by kernel_rfl) (by kernel_rfl) h

/- (*carling/image.Image).Dead -/
def S_18 (p1 : Option Addr) (w : World) (Q : Value → World → Prop) : Prop :=
  Ret Tryz.prog 23 #[.pointer p1] w fun r1 w1 => ∃ (q1 : Bool), r1 = .bool q1 ∧ 
    (q1 = true →
      ∃ b1 o1, p1 = some ⟨b1, o1, none⟩ ∧
      ∃ (p2 : Option Addr), w1.cell? ⟨b1, (o1 + 2), none⟩ = some (.pointer p2) ∧
      Ret Tryz.prog 24 #[.pointer p2] w1 fun r2 w2 => ∃ (q2 : Bool), r2 = .bool q2 ∧ 
        Q (.bool q2) w2) ∧
    (q1 = false →
      Q (.bool false) w1)
theorem L_18 (p1 : Option Addr) (w : World) (Q : Value → World → Prop) (h : S_18 p1 w Q) : Ret Tryz.prog 18 #[.pointer p1] w Q := by
  unfold S_18 at h
  refine ret_of_wp Tryz.func18 rfl ?_
  refine wp_seq ?_
  refine wp_reg ?_
  refine wl_end (by kernel_rfl) ?_
  refine then_normal ?_
  refine wp_seq ?_
  refine wp_reg ?_
  refine wl_pure 1 (by kernel_rfl) ?_
  refine wl_op (op_callf (args := #[.pointer p1]) rfl (by kernel_rfl) (by kernel_rfl) Tryz.call23 (Ret.mono h ?_))
  clear h; rintro r1 w1 ⟨q1, rfl, h⟩
  refine wl_pure 1 (by kernel_rfl) ?_
  refine wl_split (e := q1) ?_ ?_
  · intro hb; refine wl_lit 5 (e := q1) (b := true) (by kernel_rfl) hb ?_
    replace h := h.1 (hb)
    clear hb
    refine wl_pure 1 (by kernel_rfl) ?_
    obtain ⟨b1, o1, rfl, h⟩ := h
    refine wl_op (op_pure (v := .pointer (some ⟨b1, o1, none⟩)) (by kernel_rfl) (by kernel_rfl) ?_)
    refine wl_pure 1 (by kernel_rfl) ?_
    obtain ⟨p2, hx, h⟩ := h
    refine wl_op (op_load (v := .pointer p2) rfl (by kernel_rfl) (by kernel_rfl) Tryz.isAgg63 hx ?_)
    clear hx
    refine wl_op (op_callf (args := #[.pointer p2]) rfl (by kernel_rfl) (by kernel_rfl) Tryz.call24 (Ret.mono h ?_))
    clear h; rintro r2 w2 ⟨q2, rfl, h⟩
    refine wl_end (by kernel_rfl) ?_
    refine then_normal ?_
    refine wp_ret ?_
    exact rp_ret (v := .bool q2) (by kernel_rfl) (by kernel_rfl) h
  · intro hb; refine wl_lit 5 (e := q1) (b := false) (by kernel_rfl) hb ?_
    replace h := h.2 (hb)
    clear hb
    refine wl_end (by kernel_rfl) ?_
    refine then_normal ?_
    refine wp_ret ?_
    exact rp_ret (v := .bool false) (by kernel_rfl) (by kernel_rfl) h

/- (*carling/image.Image).All -/
def S_19 (p1 : Option Addr) (w : World) (Q : Value → World → Prop) : Prop :=
  Ret Tryz.prog 23 #[.pointer p1] w fun r1 w1 => ∃ (q1 : Bool), r1 = .bool q1 ∧ 
    (q1 = false →
      Q (.tuple #[.slice none 0 0, .int .i64 2]) w1) ∧
    (q1 = true →
      Ret Tryz.prog 18 #[.pointer p1] w1 fun r2 w2 => ∃ (q2 : Bool), r2 = .bool q2 ∧ 
        (q2 = true →
          Q (.tuple #[.slice none 0 0, .int .i64 9]) w2) ∧
        (q2 = false →
          Ret Tryz.prog 21 #[.pointer p1] w2 fun r3 w3 => ∃ (x1 : Int), r3 = .int .i64 x1 ∧ 
            ∃ (I1 : (Option Addr) → Nat → Nat → Int → World → Prop) (μ1 : (Option Addr) → Nat → Nat → Int → World → Nat), I1 none 0 0 0 w3 ∧
            ∀ (A1 : Option Addr) (n1 : Nat) (c1 : Nat) (x2 : Int) (w4 : World), I1 A1 n1 c1 x2 w4 →
              (x2 < x1 →
                Ret Tryz.prog 12 #[.pointer p1, .int .i64 x2] w4 fun r4 w5 => ∃ (A2 : Option Addr) (n2 : Nat) (c2 : Nat) (x3 : Int), r4 = .tuple #[.slice A2 n2 c2, .int .i64 x3] ∧ 
                  (x3 ≠ 0 →
                    Q (.tuple #[.slice none 0 0, .int .i64 x3]) w5) ∧
                  (x3 = 0 →
                    ∀ b1 w6, b1 = w5.heap.size → w6 = w5.alloc (.cells ([.slice A2 n2 c2] : List Value).toArray 33) →
                    ∃ l1 l2 : List Value, (n1 + 1) * 24 ≤ 140737488355328 ∧ l1.length = n1 * 1 ∧ RdS w6 A1 l1 ∧ l2.length = 1 * 1 ∧ RdS w6 (some ⟨b1, 0, none⟩) l2 ∧ One l2 ∧ (n1 + 1 ≤ c1 → Room w6 A1 (n1 * 1) (1 * 1)) ∧
                    ∀ A3 c3 w7, Appended w6 33 1 #[.slice none 0 0] A1 n1 c1 1 l1 l2 A3 c3 w7 →
                    I1 A3 (n1 + 1) c3 (IntKind.i64.wrap (x2 + 1)) w7 ∧ μ1 A3 (n1 + 1) c3 (IntKind.i64.wrap (x2 + 1)) w7 < μ1 A1 n1 c1 x2 w4)) ∧
              (¬ x2 < x1 →
                Q (.tuple #[.slice A1 n1 c1, .int .i64 0]) w4)))
theorem L_19 (p1 : Option Addr) (w : World) (Q : Value → World → Prop) (h : S_19 p1 w Q) : Ret Tryz.prog 19 #[.pointer p1] w Q := by
  unfold S_19 at h
  refine ret_of_wp Tryz.func19 rfl ?_
  refine wp_seq ?_
  refine wp_reg ?_
  refine wl_end (by kernel_rfl) ?_
  refine then_normal ?_
  refine wp_seq ?_
  refine wp_seq ?_
  refine wp_reg ?_
  refine wl_pure 1 (by kernel_rfl) ?_
  refine wl_op (op_callf (args := #[.pointer p1]) rfl (by kernel_rfl) (by kernel_rfl) Tryz.call23 (Ret.mono h ?_))
  clear h; rintro r1 w1 ⟨q1, rfl, h⟩
  refine wl_end (by kernel_rfl) ?_
  refine then_normal ?_
  refine wp_cond_split (t := (!q1)) (by kernel_rfl) (fun hb => ?_) (fun hb => ?_)
  · replace h := h.1 ((not_flip hb))
    clear hb
    refine wp_seq ?_
    refine wp_reg ?_
    refine wl_end (by kernel_rfl) ?_
    refine then_normal ?_
    refine wp_ret ?_
    refine then_ret ?_
    exact rp_ret (v := .tuple #[.slice none 0 0, .int .i64 2]) (by kernel_rfl) (by kernel_rfl) h
  · replace h := h.2 ((not_flip hb))
    clear hb
    refine wp_skip ?_
    refine then_normal ?_
    refine wp_seq ?_
    refine wp_seq ?_
    refine wp_reg ?_
    refine wl_pure 1 (by kernel_rfl) ?_
    refine wl_op (op_callf (args := #[.pointer p1]) rfl (by kernel_rfl) (by kernel_rfl) Tryz.call18 (Ret.mono h ?_))
    clear h; rintro r2 w2 ⟨q2, rfl, h⟩
    refine wl_nil ?_
    refine then_normal ?_
    refine wp_cond_split (t := q2) (by kernel_rfl) (fun hb => ?_) (fun hb => ?_)
    · replace h := h.1 (hb)
      clear hb
      refine wp_seq ?_
      refine wp_reg ?_
      refine wl_end (by kernel_rfl) ?_
      refine then_normal ?_
      refine wp_ret ?_
      refine then_ret ?_
      exact rp_ret (v := .tuple #[.slice none 0 0, .int .i64 9]) (by kernel_rfl) (by kernel_rfl) h
    · replace h := h.2 (hb)
      clear hb
      refine wp_skip ?_
      refine then_normal ?_
      refine wp_seq ?_
      refine wp_reg ?_
      refine wl_end (by kernel_rfl) ?_
      refine then_normal ?_
      refine wp_seq ?_
      refine wp_seq ?_
      refine wp_reg ?_
      refine wl_pure 1 (by kernel_rfl) ?_
      refine wl_op (op_callf (args := #[.pointer p1]) rfl (by kernel_rfl) (by kernel_rfl) Tryz.call21 (Ret.mono h ?_))
      clear h; rintro r3 w3 ⟨x1, rfl, h⟩
      refine wl_end (by kernel_rfl) ?_
      refine then_normal ?_
      refine wp_block ?_
      obtain ⟨I1, μ1, hI1, hB1⟩ := h
      refine wp_loop_st (σ := (Option Addr) × Nat × Nat × Int) (fun s a => ∃ u1 : Nat → Value, a = ⟨#[.pointer p1, undef, u1 2, u1 3, .slice s.1 s.2.1 s.2.2.1, u1 5, u1 6, u1 7, .pointer p1, .bool q1, .bool (!q1), .pointer p1, .bool q2, .pointer p1, .int .i64 x1, .int .i64 s.2.2.2, u1 16, u1 17, u1 18, u1 19, u1 20, u1 21, u1 22, u1 23, u1 24, u1 25, u1 26, u1 27, u1 28, u1 29, u1 30, u1 31, undef], []⟩) (fun s w => I1 s.1 s.2.1 s.2.2.1 s.2.2.2 w) (fun s w => μ1 s.1 s.2.1 s.2.2.1 s.2.2.2 w) (none, 0, 0, 0) (enc_intro (by kernel_rfl)) hI1 ?_
      clear hI1
      rintro ⟨A1, n1, c1, x2⟩ a w4 ⟨u1, rfl⟩ hI1
      have h := hB1 A1 n1 c1 x2 w4 hI1
      clear hI1 hB1
      refine wp_seq ?_
      refine wp_reg ?_
      refine wl_end (by kernel_rfl) ?_
      refine then_normal ?_
      refine wp_seq ?_
      refine wp_cond_split (t := (decide (x2 < x1))) (by kernel_rfl) (fun hb => ?_) (fun hb => ?_)
      · replace h := h.1 (of_decide_eq_true hb)
        clear hb
        refine wp_skip ?_
        refine then_normal ?_
        refine wp_seq ?_
        refine wp_block ?_
        refine wp_seq ?_
        refine wp_reg ?_
        refine wl_end (by kernel_rfl) ?_
        refine then_normal ?_
        refine wp_seq ?_
        refine wp_reg ?_
        refine wl_pure 2 (by kernel_rfl) ?_
        refine wl_op (op_callf (args := #[.pointer p1, .int .i64 x2]) rfl (by kernel_rfl) (by kernel_rfl) Tryz.call12 (Ret.mono h ?_))
        clear h; rintro r4 w5 ⟨A2, n2, c2, x3, rfl, h⟩
        refine wl_end (by kernel_rfl) ?_
        refine then_normal ?_
        refine wp_seq ?_
        refine wp_seq ?_
        refine wp_reg ?_
        refine wl_end (by kernel_rfl) ?_
        refine then_normal ?_
        refine wp_cond_split (t := (x3 != 0)) (by kernel_rfl) (fun hb => ?_) (fun hb => ?_)
        · replace h := h.1 (bne_iff_ne.1 hb)
          clear hb
          refine wp_seq ?_
          refine wp_reg ?_
          refine wl_end (by kernel_rfl) ?_
          refine then_normal ?_
          refine wp_ret ?_
          refine then_ret ?_
          refine block_ret ?_
          refine then_ret ?_
          refine then_ret ?_
          refine block_ret ?_
          refine then_ret ?_
          exact rp_ret (v := .tuple #[.slice none 0 0, .int .i64 x3]) (by kernel_rfl) (by kernel_rfl) h
        · replace h := h.2 (bne_false hb)
          clear hb
          refine wp_skip ?_
          refine then_normal ?_
          refine wp_reg ?_
          refine wl_pure 2 (by kernel_rfl) ?_
          refine wl_op (op_bslice (cs := ([.slice A2 n2 c2] : List Value)) rfl (by kernel_rfl) Tryz.underlying27 Tryz.sizeOf33 Tryz.zeroValue33 (by kernel_rfl) (by decide) (by decide) ?_)
          intro b1 w6 e1 e2; replace h := h b1 w6 e1 e2; clear e1 e2
          obtain ⟨l1, l2, h1, h2, h3, h4, h5, h6, h7, h⟩ := h
          refine wl_op (op_append (A := A1) (n := n1) (c := c1) (B := (some ⟨b1, 0, none⟩)) (m := 1) (c2 := 1) (olds := l1) (news := l2) rfl (by kernel_rfl) (by kernel_rfl) (by kernel_rfl) Tryz.underlying27 Tryz.underlying27 Tryz.typeInfo33 rfl (by decide) h1 h2 h3 h4 h5 h6 h7 ?_)
          intro A3 c3 w7 e1; replace h := h A3 c3 w7 e1; clear h1 h2 h3 h4 h5 h6 h7 e1
          refine wl_end (by kernel_rfl) ?_
          refine block_normal ?_
          refine then_normal ?_
          refine wp_reg ?_
          refine wl_end (by kernel_rfl) ?_
          refine then_normal ?_
          exact ⟨(A3, (n1 + 1), c3, (IntKind.i64.wrap (x2 + 1))), enc_intro (by kernel_rfl), h.1, h.2⟩
      · replace h := h.2 (of_decide_eq_false hb)
        clear hb
        refine wp_exit ?_
        refine then_exit ?_
        refine then_exit ?_
        refine block_exit_eq ?_
        refine then_normal ?_
        refine wp_seq ?_
        refine wp_reg ?_
        refine wl_end (by kernel_rfl) ?_
        refine then_normal ?_
        refine wp_ret ?_
        exact rp_ret (v := .tuple #[.slice A1 n1 c1, .int .i64 0]) (by kernel_rfl) (by kernel_rfl) h

/- carling/carlinglaw19.like -/
def S_20 (A1 : Option Addr) (n1 : Nat) (c1 : Nat) (A2 : Option Addr) (n2 : Nat) (c2 : Nat) (w : World) (Q : Value → World → Prop) : Prop :=
  (((n1 : Nat) : Int) ≠ ((n2 : Nat) : Int) →
    Q (.bool false) w) ∧
  (((n1 : Nat) : Int) = ((n2 : Nat) : Int) →
    ∃ (I1 : Int → World → Prop) (μ1 : Int → World → Nat), I1 0 w ∧
    ∀ (x1 : Int) (w1 : World), I1 x1 w1 →
      (x1 < ((n1 : Nat) : Int) →
        ∀ w2, w2 = w1.drew →
        ∃ b1 o1, A1 = some ⟨b1, o1, none⟩ ∧ (0 : Int) ≤ x1 ∧ x1 < ((n1 : Nat) : Int) ∧
        ∃ (A3 : Option Addr) (n3 : Nat) (c3 : Nat), w1.cell? ⟨b1, (o1 + (x1).toNat * 1), none⟩ = some (.slice A3 n3 c3) ∧
        ∃ b2 o2, A2 = some ⟨b2, o2, none⟩ ∧ (0 : Int) ≤ x1 ∧ x1 < ((n2 : Nat) : Int) ∧
        ∃ (A4 : Option Addr) (n4 : Nat) (c4 : Nat), w1.cell? ⟨b2, (o2 + (x1).toNat * 1), none⟩ = some (.slice A4 n4 c4) ∧
        Ret Tryz.prog 13 #[.slice A3 n3 c3, .slice A4 n4 c4] w2 fun r1 w3 => ∃ (q1 : Bool), r1 = .bool q1 ∧ 
          (q1 = false →
            Q (.bool false) w3) ∧
          (q1 = true →
            I1 (IntKind.i64.wrap (x1 + 1)) w3 ∧ μ1 (IntKind.i64.wrap (x1 + 1)) w3 < μ1 x1 w1)) ∧
      (¬ x1 < ((n1 : Nat) : Int) →
        Q (.bool true) w1))
theorem L_20 (A1 : Option Addr) (n1 : Nat) (c1 : Nat) (A2 : Option Addr) (n2 : Nat) (c2 : Nat) (w : World) (Q : Value → World → Prop) (h : S_20 A1 n1 c1 A2 n2 c2 w Q) : Ret Tryz.prog 20 #[.slice A1 n1 c1, .slice A2 n2 c2] w Q := by
  unfold S_20 at h
  refine ret_of_wp Tryz.func20 rfl ?_
  refine wp_seq ?_
  refine wp_reg ?_
  refine wl_end (by kernel_rfl) ?_
  refine then_normal ?_
  refine wp_seq ?_
  refine wp_seq ?_
  refine wp_reg ?_
  refine wl_end (by kernel_rfl) ?_
  refine then_normal ?_
  refine wp_cond_split (t := (((n1 : Nat) : Int) != ((n2 : Nat) : Int))) (by kernel_rfl) (fun hb => ?_) (fun hb => ?_)
  · replace h := h.1 (bne_iff_ne.1 hb)
    clear hb
    refine wp_seq ?_
    refine wp_reg ?_
    refine wl_end (by kernel_rfl) ?_
    refine then_normal ?_
    refine wp_ret ?_
    refine then_ret ?_
    exact rp_ret (v := .bool false) (by kernel_rfl) (by kernel_rfl) h
  · replace h := h.2 (bne_false hb)
    clear hb
    refine wp_skip ?_
    refine then_normal ?_
    refine wp_seq ?_
    refine wp_seq ?_
    refine wp_reg ?_
    refine wl_end (by kernel_rfl) ?_
    refine then_normal ?_
    refine wp_block ?_
    obtain ⟨I1, μ1, hI1, hB1⟩ := h
    refine wp_loop_st (σ := Int) (fun s a => ∃ u1 : Nat → Value, a = ⟨#[.slice A1 n1 c1, .slice A2 n2 c2, undef, undef, u1 4, u1 5, .slice A1 n1 c1, .int .i64 ((n1 : Nat) : Int), .slice A2 n2 c2, .int .i64 ((n2 : Nat) : Int), .bool (((n1 : Nat) : Int) != ((n2 : Nat) : Int)), .slice A1 n1 c1, .int .i64 ((n1 : Nat) : Int), .int .i64 s, u1 14, u1 15, u1 16, u1 17, u1 18, u1 19, u1 20, u1 21, u1 22, u1 23, u1 24, u1 25, u1 26], []⟩) (fun s w => I1 s w) (fun s w => μ1 s w) (0) (enc_intro (by kernel_rfl)) hI1 ?_
    clear hI1
    rintro x1 a w1 ⟨u1, rfl⟩ hI1
    have h := hB1 x1 w1 hI1
    clear hI1 hB1
    refine wp_seq ?_
    refine wp_reg ?_
    refine wl_end (by kernel_rfl) ?_
    refine then_normal ?_
    refine wp_seq ?_
    refine wp_cond_split (t := (decide (x1 < ((n1 : Nat) : Int)))) (by kernel_rfl) (fun hb => ?_) (fun hb => ?_)
    · replace h := h.1 (of_decide_eq_true hb)
      clear hb
      refine wp_skip ?_
      refine then_normal ?_
      refine wp_seq ?_
      refine wp_block ?_
      refine wp_seq ?_
      refine wp_reg ?_
      refine wl_end (by kernel_rfl) ?_
      refine then_normal ?_
      refine wp_seq ?_
      refine wd_begin (by kernel_rfl) (Keep w1) [8] ?_
      intro w2 e1; have hK1 := keep_drew e1; replace h := h w2 e1; clear e1
      refine wd_takeP 0 rfl (by kernel_rfl) (fun _ _ _ h => h) (y_pure (v := .slice A1 n1 c1) (by kernel_rfl) (by kernel_rfl)) ?_
      refine wd_takeP 1 rfl (by kernel_rfl) (fun _ _ _ h => h) (y_pure (v := .int .i64 x1) (by kernel_rfl) (by kernel_rfl)) ?_
      obtain ⟨b1, o1, rfl, h⟩ := h
      obtain ⟨h1, h2, h⟩ := h
      refine wd_takeP 2 rfl (by kernel_rfl) (fun _ _ _ h => h) (y_index (k := .i64) (j := x1) (b := b1) (off := o1) (n := n1) (c := c1) rfl (by kernel_rfl) (by kernel_rfl) (by kernel_rfl) Tryz.underlying27 Tryz.sizeOf33 h1 h2) ?_
      clear h1 h2
      obtain ⟨A3, n3, c3, hx, h⟩ := h
      refine wd_take 3 rfl (by kernel_rfl) (fun _ _ _ h => h) (y_load (v := .slice A3 n3 c3) rfl (by kernel_rfl) (by kernel_rfl) Tryz.isAgg33 (fun _ hk => keep_cell hk hx)) hK1 ?_
      clear hx
      refine wd_takeP 4 rfl (by kernel_rfl) (fun _ _ _ h => h) (y_pure (v := .slice A2 n2 c2) (by kernel_rfl) (by kernel_rfl)) ?_
      refine wd_takeP 5 rfl (by kernel_rfl) (fun _ _ _ h => h) (y_pure (v := .int .i64 x1) (by kernel_rfl) (by kernel_rfl)) ?_
      obtain ⟨b2, o2, rfl, h⟩ := h
      obtain ⟨h1, h2, h⟩ := h
      refine wd_takeP 6 rfl (by kernel_rfl) (fun _ _ _ h => h) (y_index (k := .i64) (j := x1) (b := b2) (off := o2) (n := n2) (c := c2) rfl (by kernel_rfl) (by kernel_rfl) (by kernel_rfl) Tryz.underlying27 Tryz.sizeOf33 h1 h2) ?_
      clear h1 h2
      obtain ⟨A4, n4, c4, hx, h⟩ := h
      refine wd_take 7 rfl (by kernel_rfl) (fun _ _ _ h => h) (y_load (v := .slice A4 n4 c4) rfl (by kernel_rfl) (by kernel_rfl) Tryz.isAgg33 (fun _ hk => keep_cell hk hx)) hK1 ?_
      clear hx
      refine wd_one 8 rfl (by kernel_rfl) (by kernel_rfl) (op_callf (args := #[.slice A3 n3 c3, .slice A4 n4 c4]) rfl (by kernel_rfl) (by kernel_rfl) Tryz.call13 (Ret.mono h ?_))
      clear h; rintro r1 w3 ⟨q1, rfl, h⟩
      refine ⟨fun hh => absurd hh (by decide), ?_⟩
      refine wd_takeP 9 rfl (by kernel_rfl) (fun _ _ _ h => h) (y_pure (v := .bool (!q1)) (by kernel_rfl) (by kernel_rfl)) ?_
      refine wd_done (by kernel_rfl) ?_
      refine then_normal ?_
      refine wp_cond_split (t := (!q1)) (by kernel_rfl) (fun hb => ?_) (fun hb => ?_)
      · replace h := h.1 ((not_flip hb))
        clear hb
        refine wp_seq ?_
        refine wp_reg ?_
        refine wl_end (by kernel_rfl) ?_
        refine then_normal ?_
        refine wp_ret ?_
        refine block_ret ?_
        refine then_ret ?_
        refine then_ret ?_
        refine block_ret ?_
        refine then_ret ?_
        exact rp_ret (v := .bool false) (by kernel_rfl) (by kernel_rfl) h
      · replace h := h.2 ((not_flip hb))
        clear hb
        refine wp_skip ?_
        refine block_normal ?_
        refine then_normal ?_
        refine wp_reg ?_
        refine wl_end (by kernel_rfl) ?_
        refine then_normal ?_
        exact ⟨((IntKind.i64.wrap (x1 + 1))), enc_intro (by kernel_rfl), h.1, h.2⟩
    · replace h := h.2 (of_decide_eq_false hb)
      clear hb
      refine wp_exit ?_
      refine then_exit ?_
      refine then_exit ?_
      refine block_exit_eq ?_
      refine then_normal ?_
      refine wp_seq ?_
      refine wp_reg ?_
      refine wl_end (by kernel_rfl) ?_
      refine then_normal ?_
      refine wp_ret ?_
      exact rp_ret (v := .bool true) (by kernel_rfl) (by kernel_rfl) h

/- (*carling/image.Image).Pages -/
def S_21 (p1 : Option Addr) (w : World) (Q : Value → World → Prop) : Prop :=
  Ret Tryz.prog 23 #[.pointer p1] w fun r1 w1 => ∃ (q1 : Bool), r1 = .bool q1 ∧ 
    (q1 = false →
      Q (.int .i64 0) w1) ∧
    (q1 = true →
      ∃ b1 o1, p1 = some ⟨b1, o1, none⟩ ∧
      ∃ (v1 : Value), w1.cell? ⟨b1, (o1 + 1), none⟩ = some (v1) ∧
      ∃ f1 v2, MethIs Tryz.prog v1 "Pages" f1 v2 ∧
      Ret Tryz.prog f1 #[v2] w1 fun r2 w2 => ∃ (x1 : Int), r2 = .int .i64 x1 ∧ 
        Q (.int .i64 x1) w2)
theorem L_21 (p1 : Option Addr) (w : World) (Q : Value → World → Prop) (h : S_21 p1 w Q) : Ret Tryz.prog 21 #[.pointer p1] w Q := by
  unfold S_21 at h
  refine ret_of_wp Tryz.func21 rfl ?_
  refine wp_seq ?_
  refine wp_reg ?_
  refine wl_end (by kernel_rfl) ?_
  refine then_normal ?_
  refine wp_seq ?_
  refine wp_seq ?_
  refine wp_reg ?_
  refine wl_pure 1 (by kernel_rfl) ?_
  refine wl_op (op_callf (args := #[.pointer p1]) rfl (by kernel_rfl) (by kernel_rfl) Tryz.call23 (Ret.mono h ?_))
  clear h; rintro r1 w1 ⟨q1, rfl, h⟩
  refine wl_end (by kernel_rfl) ?_
  refine then_normal ?_
  refine wp_cond_split (t := (!q1)) (by kernel_rfl) (fun hb => ?_) (fun hb => ?_)
  · replace h := h.1 ((not_flip hb))
    clear hb
    refine wp_seq ?_
    refine wp_reg ?_
    refine wl_end (by kernel_rfl) ?_
    refine then_normal ?_
    refine wp_ret ?_
    refine then_ret ?_
    exact rp_ret (v := .int .i64 0) (by kernel_rfl) (by kernel_rfl) h
  · replace h := h.2 ((not_flip hb))
    clear hb
    refine wp_skip ?_
    refine then_normal ?_
    refine wp_seq ?_
    refine wp_reg ?_
    refine wl_pure 1 (by kernel_rfl) ?_
    obtain ⟨b1, o1, rfl, h⟩ := h
    refine wl_op (op_pure (v := .pointer (some ⟨b1, o1, none⟩)) (by kernel_rfl) (by kernel_rfl) ?_)
    refine wl_pure 1 (by kernel_rfl) ?_
    obtain ⟨v1, hx, h⟩ := h
    refine wl_op (op_load (v := v1) rfl (by kernel_rfl) (by kernel_rfl) Tryz.isAgg62 hx ?_)
    clear hx
    obtain ⟨f1, v2, h1, h⟩ := h
    refine wl_op (op_invoke (v := v1) (args := #[]) (argz := #[v2]) rfl (by kernel_rfl) (by kernel_rfl) (by kernel_rfl) h1 (by kernel_rfl) (Ret.mono h ?_))
    clear h h1; rintro r2 w2 ⟨x1, rfl, h⟩
    refine wl_end (by kernel_rfl) ?_
    refine then_normal ?_
    refine wp_ret ?_
    exact rp_ret (v := .int .i64 x1) (by kernel_rfl) (by kernel_rfl) h

/- (*carling/image.Image).Kind -/
def S_22 (p1 : Option Addr) (w : World) (Q : Value → World → Prop) : Prop :=
  Ret Tryz.prog 23 #[.pointer p1] w fun r1 w1 => ∃ (q1 : Bool), r1 = .bool q1 ∧ 
    (q1 = false →
      Q (.int .i64 0) w1) ∧
    (q1 = true →
      ∃ b1 o1, p1 = some ⟨b1, o1, none⟩ ∧
      ∃ (x1 : Int), w1.cell? ⟨b1, o1, none⟩ = some (.int .i64 x1) ∧
      Q (.int .i64 x1) w1)
theorem L_22 (p1 : Option Addr) (w : World) (Q : Value → World → Prop) (h : S_22 p1 w Q) : Ret Tryz.prog 22 #[.pointer p1] w Q := by
  unfold S_22 at h
  refine ret_of_wp Tryz.func22 rfl ?_
  refine wp_seq ?_
  refine wp_reg ?_
  refine wl_end (by kernel_rfl) ?_
  refine then_normal ?_
  refine wp_seq ?_
  refine wp_seq ?_
  refine wp_reg ?_
  refine wl_pure 1 (by kernel_rfl) ?_
  refine wl_op (op_callf (args := #[.pointer p1]) rfl (by kernel_rfl) (by kernel_rfl) Tryz.call23 (Ret.mono h ?_))
  clear h; rintro r1 w1 ⟨q1, rfl, h⟩
  refine wl_end (by kernel_rfl) ?_
  refine then_normal ?_
  refine wp_cond_split (t := (!q1)) (by kernel_rfl) (fun hb => ?_) (fun hb => ?_)
  · replace h := h.1 ((not_flip hb))
    clear hb
    refine wp_seq ?_
    refine wp_reg ?_
    refine wl_end (by kernel_rfl) ?_
    refine then_normal ?_
    refine wp_ret ?_
    refine then_ret ?_
    exact rp_ret (v := .int .i64 0) (by kernel_rfl) (by kernel_rfl) h
  · replace h := h.2 ((not_flip hb))
    clear hb
    refine wp_skip ?_
    refine then_normal ?_
    refine wp_seq ?_
    refine wp_reg ?_
    refine wl_pure 1 (by kernel_rfl) ?_
    obtain ⟨b1, o1, rfl, h⟩ := h
    refine wl_op (op_pure (v := .pointer (some ⟨b1, o1, none⟩)) (by kernel_rfl) (by kernel_rfl) ?_)
    refine wl_pure 1 (by kernel_rfl) ?_
    obtain ⟨x1, hx, h⟩ := h
    refine wl_op (op_load (v := .int .i64 x1) rfl (by kernel_rfl) (by kernel_rfl) Tryz.isAgg3 hx ?_)
    clear hx
    refine wl_end (by kernel_rfl) ?_
    refine then_normal ?_
    refine wp_ret ?_
    exact rp_ret (v := .int .i64 x1) (by kernel_rfl) (by kernel_rfl) h

/- (*carling/image.Image).ok -/
def S_23 (p1 : Option Addr) (w : World) (Q : Value → World → Prop) : Prop :=
  (p1 ≠ none →
    ∃ b1 o1, p1 = some ⟨b1, o1, none⟩ ∧
    ∃ (x1 : Int), w.cell? ⟨b1, o1, none⟩ = some (.int .i64 x1) ∧
    Q (.bool (x1 != 0)) w) ∧
  (p1 = none →
    Q (.bool false) w)
theorem L_23 (p1 : Option Addr) (w : World) (Q : Value → World → Prop) (h : S_23 p1 w Q) : Ret Tryz.prog 23 #[.pointer p1] w Q := by
  unfold S_23 at h
  refine ret_of_wp Tryz.func23 rfl ?_
  refine wp_seq ?_
  refine wp_reg ?_
  refine wl_end (by kernel_rfl) ?_
  refine then_normal ?_
  refine wp_seq ?_
  refine wp_reg ?_
  refine wl_pure 1 (by kernel_rfl) ?_
  refine wl_op (op_ne_ptr_nil (p := p1) rfl (by kernel_rfl) (by kernel_rfl) (by kernel_rfl) Tryz.underlying23 ?_)
  refine wl_pure 1 (by kernel_rfl) ?_
  refine wl_split (e := (!p1.isNone)) ?_ ?_
  · intro hb; refine wl_lit 5 (e := (!p1.isNone)) (b := true) (by kernel_rfl) hb ?_
    replace h := h.1 (ne_none_of (not_flip hb))
    clear hb
    refine wl_pure 1 (by kernel_rfl) ?_
    obtain ⟨b1, o1, rfl, h⟩ := h
    refine wl_op (op_pure (v := .pointer (some ⟨b1, o1, none⟩)) (by kernel_rfl) (by kernel_rfl) ?_)
    refine wl_pure 1 (by kernel_rfl) ?_
    obtain ⟨x1, hx, h⟩ := h
    refine wl_op (op_load (v := .int .i64 x1) rfl (by kernel_rfl) (by kernel_rfl) Tryz.isAgg3 hx ?_)
    clear hx
    refine wl_end (by kernel_rfl) ?_
    refine then_normal ?_
    refine wp_ret ?_
    exact rp_ret (v := .bool (x1 != 0)) (by kernel_rfl) (by kernel_rfl) h
  · intro hb; refine wl_lit 5 (e := (!p1.isNone)) (b := false) (by kernel_rfl) hb ?_
    replace h := h.2 (Option.isNone_iff_eq_none.1 (not_flip hb))
    clear hb
    refine wl_end (by kernel_rfl) ?_
    refine then_normal ?_
    refine wp_ret ?_
    exact rp_ret (v := .bool false) (by kernel_rfl) (by kernel_rfl) h

/- (*carling/lazy.Image).Dead -/
def S_24 (p1 : Option Addr) (w : World) (Q : Value → World → Prop) : Prop :=
  Ret Tryz.prog 25 #[.pointer p1] w fun r1 w1 => ∃ (q1 : Bool), r1 = .bool q1 ∧ 
    (q1 = true →
      ∃ b1 o1, p1 = some ⟨b1, o1, none⟩ ∧
      ∃ (q2 : Bool), w1.cell? ⟨b1, (o1 + 73), none⟩ = some (.bool q2) ∧
      Q (.bool q2) w1) ∧
    (q1 = false →
      Q (.bool false) w1)
theorem L_24 (p1 : Option Addr) (w : World) (Q : Value → World → Prop) (h : S_24 p1 w Q) : Ret Tryz.prog 24 #[.pointer p1] w Q := by
  unfold S_24 at h
  refine ret_of_wp Tryz.func24 rfl ?_
  refine wp_seq ?_
  refine wp_reg ?_
  refine wl_end (by kernel_rfl) ?_
  refine then_normal ?_
  refine wp_seq ?_
  refine wp_reg ?_
  refine wl_pure 1 (by kernel_rfl) ?_
  refine wl_op (op_callf (args := #[.pointer p1]) rfl (by kernel_rfl) (by kernel_rfl) Tryz.call25 (Ret.mono h ?_))
  clear h; rintro r1 w1 ⟨q1, rfl, h⟩
  refine wl_pure 1 (by kernel_rfl) ?_
  refine wl_split (e := q1) ?_ ?_
  · intro hb; refine wl_lit 5 (e := q1) (b := true) (by kernel_rfl) hb ?_
    replace h := h.1 (hb)
    clear hb
    refine wl_pure 1 (by kernel_rfl) ?_
    obtain ⟨b1, o1, rfl, h⟩ := h
    refine wl_op (op_pure (v := .pointer (some ⟨b1, o1, none⟩)) (by kernel_rfl) (by kernel_rfl) ?_)
    refine wl_pure 1 (by kernel_rfl) ?_
    obtain ⟨q2, hx, h⟩ := h
    refine wl_op (op_load (v := .bool q2) rfl (by kernel_rfl) (by kernel_rfl) Tryz.isAgg4 hx ?_)
    clear hx
    refine wl_end (by kernel_rfl) ?_
    refine then_normal ?_
    refine wp_ret ?_
    exact rp_ret (v := .bool q2) (by kernel_rfl) (by kernel_rfl) h
  · intro hb; refine wl_lit 5 (e := q1) (b := false) (by kernel_rfl) hb ?_
    replace h := h.2 (hb)
    clear hb
    refine wl_end (by kernel_rfl) ?_
    refine then_normal ?_
    refine wp_ret ?_
    exact rp_ret (v := .bool false) (by kernel_rfl) (by kernel_rfl) h

/- (*carling/lazy.Image).ok -/
def S_25 (p1 : Option Addr) (w : World) (Q : Value → World → Prop) : Prop :=
  (p1 ≠ none →
    ∃ b1 o1, p1 = some ⟨b1, o1, none⟩ ∧
    ∃ (m1 : Option Nat), w.cell? ⟨b1, (o1 + 71), none⟩ = some (.map m1) ∧
    ∃ q1, (∀ W, EqRun Tryz.prog W 71 (.map m1) (.map none) q1) ∧
    Q (.bool (!q1)) w) ∧
  (p1 = none →
    Q (.bool false) w)
theorem L_25 (p1 : Option Addr) (w : World) (Q : Value → World → Prop) (h : S_25 p1 w Q) : Ret Tryz.prog 25 #[.pointer p1] w Q := by
  unfold S_25 at h
  refine ret_of_wp Tryz.func25 rfl ?_
  refine wp_seq ?_
  refine wp_reg ?_
  refine wl_end (by kernel_rfl) ?_
  refine then_normal ?_
  refine wp_seq ?_
  refine wp_reg ?_
  refine wl_pure 1 (by kernel_rfl) ?_
  refine wl_op (op_ne_ptr_nil (p := p1) rfl (by kernel_rfl) (by kernel_rfl) (by kernel_rfl) Tryz.underlying63 ?_)
  refine wl_pure 1 (by kernel_rfl) ?_
  refine wl_split (e := (!p1.isNone)) ?_ ?_
  · intro hb; refine wl_lit 5 (e := (!p1.isNone)) (b := true) (by kernel_rfl) hb ?_
    replace h := h.1 (ne_none_of (not_flip hb))
    clear hb
    refine wl_pure 1 (by kernel_rfl) ?_
    obtain ⟨b1, o1, rfl, h⟩ := h
    refine wl_op (op_pure (v := .pointer (some ⟨b1, o1, none⟩)) (by kernel_rfl) (by kernel_rfl) ?_)
    refine wl_pure 1 (by kernel_rfl) ?_
    obtain ⟨m1, hx, h⟩ := h
    refine wl_op (op_load (v := .map m1) rfl (by kernel_rfl) (by kernel_rfl) Tryz.isAgg71 hx ?_)
    clear hx
    obtain ⟨q1, h1, h⟩ := h
    refine wl_op (op_ne_any (x := .map m1) (y := .map none) (b := q1) rfl (by kernel_rfl) (by kernel_rfl) (by kernel_rfl) h1 ?_)
    clear h1
    refine wl_end (by kernel_rfl) ?_
    refine then_normal ?_
    refine wp_ret ?_
    exact rp_ret (v := .bool (!q1)) (by kernel_rfl) (by kernel_rfl) h
  · intro hb; refine wl_lit 5 (e := (!p1.isNone)) (b := false) (by kernel_rfl) hb ?_
    replace h := h.2 (Option.isNone_iff_eq_none.1 (not_flip hb))
    clear hb
    refine wl_end (by kernel_rfl) ?_
    refine then_normal ?_
    refine wp_ret ?_
    exact rp_ret (v := .bool false) (by kernel_rfl) (by kernel_rfl) h

/- (*carling/image.plain).Dirty -/
def S_43 (p1 : Option Addr) (w : World) (Q : Value → World → Prop) : Prop :=
  Q (.slice none 0 0) w
theorem L_43 (p1 : Option Addr) (w : World) (Q : Value → World → Prop) (h : S_43 p1 w Q) : Ret Tryz.prog 43 #[.pointer p1] w Q := by
  unfold S_43 at h
  refine ret_of_wp Tryz.func43 rfl ?_
  refine wp_seq ?_
  refine wp_reg ?_
  refine wl_end (by kernel_rfl) ?_
  refine then_normal ?_
  refine wp_seq ?_
  refine wp_reg ?_
  refine wl_end (by kernel_rfl) ?_
  refine then_normal ?_
  refine wp_ret ?_
  exact rp_ret (v := .slice none 0 0) (by kernel_rfl) (by kernel_rfl) h

/- (*carling/image.plain).Done -/
def S_44 (p1 : Option Addr) (w : World) (Q : Value → World → Prop) : Prop :=
  Q (.int .i64 0) w
theorem L_44 (p1 : Option Addr) (w : World) (Q : Value → World → Prop) (h : S_44 p1 w Q) : Ret Tryz.prog 44 #[.pointer p1] w Q := by
  unfold S_44 at h
  refine ret_of_wp Tryz.func44 rfl ?_
  refine wp_seq ?_
  refine wp_reg ?_
  refine wl_end (by kernel_rfl) ?_
  refine then_normal ?_
  refine wp_seq ?_
  refine wp_reg ?_
  refine wl_end (by kernel_rfl) ?_
  refine then_normal ?_
  refine wp_ret ?_
  exact rp_ret (v := .int .i64 0) (by kernel_rfl) (by kernel_rfl) h

/- (*carling/image.plain).Page -/
def S_46 (p1 : Option Addr) (x1 : Int) (w : World) (Q : Value → World → Prop) : Prop :=
  (x1 < 0 →
    Q (.tuple #[.slice none 0 0, .int .i64 1]) w) ∧
  (¬ x1 < 0 →
    ∃ b1 o1, p1 = some ⟨b1, o1, none⟩ ∧
    ∃ (A1 : Option Addr) (n1 : Nat) (c1 : Nat), w.cell? ⟨b1, o1, none⟩ = some (.slice A1 n1 c1) ∧
    (x1 ≥ ((n1 : Nat) : Int) →
      Q (.tuple #[.slice none 0 0, .int .i64 1]) w) ∧
    (¬ x1 ≥ ((n1 : Nat) : Int) →
      ∃ (A2 : Option Addr) (n2 : Nat) (c2 : Nat), w.cell? ⟨b1, o1, none⟩ = some (.slice A2 n2 c2) ∧
      ∃ b2 o2, A2 = some ⟨b2, o2, none⟩ ∧ (0 : Int) ≤ x1 ∧ x1 < ((n2 : Nat) : Int) ∧
      ∃ (A3 : Option Addr) (n3 : Nat) (c3 : Nat), w.cell? ⟨b2, (o2 + (x1).toNat * 1), none⟩ = some (.slice A3 n3 c3) ∧
      Ret Tryz.prog 51 #[.slice A3 n3 c3] w fun r1 w1 => ∃ (A4 : Option Addr) (n4 : Nat) (c4 : Nat), r1 = .slice A4 n4 c4 ∧ 
        Q (.tuple #[.slice A4 n4 c4, .int .i64 0]) w1))
theorem L_46 (p1 : Option Addr) (x1 : Int) (w : World) (Q : Value → World → Prop) (h : S_46 p1 x1 w Q) : Ret Tryz.prog 46 #[.pointer p1, .int .i64 x1] w Q := by
  unfold S_46 at h
  refine ret_of_wp Tryz.func46 rfl ?_
  refine wp_seq ?_
  refine wp_reg ?_
  refine wl_end (by kernel_rfl) ?_
  refine then_normal ?_
  refine wp_seq ?_
  refine wp_seq ?_
  refine wp_reg ?_
  refine wl_pure 3 (by kernel_rfl) ?_
  refine wl_split (e := (decide (x1 < 0))) ?_ ?_
  · intro hb; refine wl_lit 8 (e := (decide (x1 < 0))) (b := true) (by kernel_rfl) hb ?_
    replace h := h.1 (of_decide_eq_true hb)
    clear hb
    refine wl_end (by kernel_rfl) ?_
    refine then_normal ?_
    refine wp_cond_true (by kernel_rfl) ?_
    refine wp_seq ?_
    refine wp_reg ?_
    refine wl_end (by kernel_rfl) ?_
    refine then_normal ?_
    refine wp_ret ?_
    refine then_ret ?_
    exact rp_ret (v := .tuple #[.slice none 0 0, .int .i64 1]) (by kernel_rfl) (by kernel_rfl) h
  · intro hb; refine wl_lit 8 (e := (decide (x1 < 0))) (b := false) (by kernel_rfl) hb ?_
    replace h := h.2 (of_decide_eq_false hb)
    clear hb
    refine wl_pure 2 (by kernel_rfl) ?_
    obtain ⟨b1, o1, rfl, h⟩ := h
    refine wl_op (op_pure (v := .pointer (some ⟨b1, o1, none⟩)) (by kernel_rfl) (by kernel_rfl) ?_)
    refine wl_pure 1 (by kernel_rfl) ?_
    obtain ⟨A1, n1, c1, hx, h⟩ := h
    refine wl_op (op_load (v := .slice A1 n1 c1) rfl (by kernel_rfl) (by kernel_rfl) Tryz.isAgg27 hx ?_)
    clear hx
    refine wl_end (by kernel_rfl) ?_
    refine then_normal ?_
    refine wp_cond_split (t := (decide (x1 ≥ ((n1 : Nat) : Int)))) (by kernel_rfl) (fun hb => ?_) (fun hb => ?_)
    · replace h := h.1 (of_decide_eq_true hb)
      clear hb
      refine wp_seq ?_
      refine wp_reg ?_
      refine wl_end (by kernel_rfl) ?_
      refine then_normal ?_
      refine wp_ret ?_
      refine then_ret ?_
      exact rp_ret (v := .tuple #[.slice none 0 0, .int .i64 1]) (by kernel_rfl) (by kernel_rfl) h
    · replace h := h.2 (of_decide_eq_false hb)
      clear hb
      refine wp_skip ?_
      refine then_normal ?_
      refine wp_seq ?_
      refine wp_reg ?_
      refine wl_pure 3 (by kernel_rfl) ?_
      obtain ⟨A2, n2, c2, hx, h⟩ := h
      refine wl_op (op_load (v := .slice A2 n2 c2) rfl (by kernel_rfl) (by kernel_rfl) Tryz.isAgg27 hx ?_)
      clear hx
      refine wl_pure 1 (by kernel_rfl) ?_
      obtain ⟨b2, o2, rfl, h⟩ := h
      obtain ⟨h1, h2, h⟩ := h
      refine wl_op (op_index (k := .i64) (j := x1) (b := b2) (off := o2) (n := n2) (c := c2) rfl (by kernel_rfl) (by kernel_rfl) (by kernel_rfl) Tryz.underlying27 Tryz.sizeOf33 h1 h2 ?_)
      clear h1 h2
      obtain ⟨A3, n3, c3, hx, h⟩ := h
      refine wl_op (op_load (v := .slice A3 n3 c3) rfl (by kernel_rfl) (by kernel_rfl) Tryz.isAgg33 hx ?_)
      clear hx
      refine wl_op (op_callf (args := #[.slice A3 n3 c3]) rfl (by kernel_rfl) (by kernel_rfl) Tryz.call51 (Ret.mono h ?_))
      clear h; rintro r1 w1 ⟨A4, n4, c4, rfl, h⟩
      refine wl_end (by kernel_rfl) ?_
      refine then_normal ?_
      refine wp_ret ?_
      exact rp_ret (v := .tuple #[.slice A4 n4 c4, .int .i64 0]) (by kernel_rfl) (by kernel_rfl) h

/- (*carling/image.plain).Pages -/
def S_47 (p1 : Option Addr) (w : World) (Q : Value → World → Prop) : Prop :=
  ∃ b1 o1, p1 = some ⟨b1, o1, none⟩ ∧
  ∃ (A1 : Option Addr) (n1 : Nat) (c1 : Nat), w.cell? ⟨b1, o1, none⟩ = some (.slice A1 n1 c1) ∧
  Q (.int .i64 ((n1 : Nat) : Int)) w
theorem L_47 (p1 : Option Addr) (w : World) (Q : Value → World → Prop) (h : S_47 p1 w Q) : Ret Tryz.prog 47 #[.pointer p1] w Q := by
  unfold S_47 at h
  refine ret_of_wp Tryz.func47 rfl ?_
  refine wp_seq ?_
  refine wp_reg ?_
  refine wl_end (by kernel_rfl) ?_
  refine then_normal ?_
  refine wp_seq ?_
  refine wp_reg ?_
  refine wl_pure 1 (by kernel_rfl) ?_
  obtain ⟨b1, o1, rfl, h⟩ := h
  refine wl_op (op_pure (v := .pointer (some ⟨b1, o1, none⟩)) (by kernel_rfl) (by kernel_rfl) ?_)
  refine wl_pure 1 (by kernel_rfl) ?_
  obtain ⟨A1, n1, c1, hx, h⟩ := h
  refine wl_op (op_load (v := .slice A1 n1 c1) rfl (by kernel_rfl) (by kernel_rfl) Tryz.isAgg27 hx ?_)
  clear hx
  refine wl_end (by kernel_rfl) ?_
  refine then_normal ?_
  refine wp_ret ?_
  exact rp_ret (v := .int .i64 ((n1 : Nat) : Int)) (by kernel_rfl) (by kernel_rfl) h

/- (*carling/image.plain).Plan -/
def S_48 (p1 : Option Addr) (x1 : Int) (w : World) (Q : Value → World → Prop) : Prop :=
  ∀ b1 w1, b1 = w.heap.size → w1 = w.alloc (.cells ([.int .i64 0, .int .u32 0, .int .u8 0, .int .u8 0, .int .u8 0, .int .u8 0, .int .u8 0, .int .u8 0, .int .u8 0, .int .u8 0, .int .u8 0, .int .u8 0, .int .u8 0, .int .u8 0, .int .u8 0, .int .u8 0, .int .u8 0, .int .u8 0, .int .u8 0, .int .u8 0, .int .u8 0, .int .u8 0, .int .u8 0, .int .u8 0, .int .u8 0, .int .u8 0, .int .u8 0, .int .u8 0, .int .u8 0, .int .u8 0, .int .u8 0, .int .u8 0, .int .u8 0, .int .u8 0] : List Value).toArray 46) →
  w1.there b1 0 34 ∧
  ∀ w2, w2 = w1.setCells b1 0 ([.int .i64 0, .int .u32 0, .int .u8 0, .int .u8 0, .int .u8 0, .int .u8 0, .int .u8 0, .int .u8 0, .int .u8 0, .int .u8 0, .int .u8 0, .int .u8 0, .int .u8 0, .int .u8 0, .int .u8 0, .int .u8 0, .int .u8 0, .int .u8 0, .int .u8 0, .int .u8 0, .int .u8 0, .int .u8 0, .int .u8 0, .int .u8 0, .int .u8 0, .int .u8 0, .int .u8 0, .int .u8 0, .int .u8 0, .int .u8 0, .int .u8 0, .int .u8 0, .int .u8 0, .int .u8 0] : List Value) →
  ∃ (x2 : Int) (x3 : Int) (d1 : List Value), d1.length = 32 ∧ w2.rangeAt b1 0 (([.int .i64 x2, .int .u32 x3] : List Value) ++ d1) ∧ Q (.tuple #[.slice none 0 0, .agg (([.int .i64 x2, .int .u32 x3] : List Value) ++ d1).toArray, .int .i64 0]) w2
theorem L_48 (p1 : Option Addr) (x1 : Int) (w : World) (Q : Value → World → Prop) (h : S_48 p1 x1 w Q) : Ret Tryz.prog 48 #[.pointer p1, .int .u32 x1] w Q := by
  unfold S_48 at h
  refine ret_of_wp Tryz.func48 rfl ?_
  refine wp_seq ?_
  refine wp_reg ?_
  refine wl_pure 1 (by kernel_rfl) ?_
  refine wl_op (op_alloc rfl (by kernel_rfl) Tryz.zeroValue46 ?_)
  intro b1 w1 e1 e2; replace h := h b1 w1 e1 e2; clear e1 e2
  refine wl_end (by kernel_rfl) ?_
  refine then_normal ?_
  refine wp_seq ?_
  refine wp_reg ?_
  refine wl_pure 2 (by kernel_rfl) ?_
  obtain ⟨hw, h⟩ := h
  refine wl_op (op_storeN (cs := ([.int .i64 0, .int .u32 0, .int .u8 0, .int .u8 0, .int .u8 0, .int .u8 0, .int .u8 0, .int .u8 0, .int .u8 0, .int .u8 0, .int .u8 0, .int .u8 0, .int .u8 0, .int .u8 0, .int .u8 0, .int .u8 0, .int .u8 0, .int .u8 0, .int .u8 0, .int .u8 0, .int .u8 0, .int .u8 0, .int .u8 0, .int .u8 0, .int .u8 0, .int .u8 0, .int .u8 0, .int .u8 0, .int .u8 0, .int .u8 0, .int .u8 0, .int .u8 0, .int .u8 0, .int .u8 0] : List Value)) rfl (by kernel_rfl) (by kernel_rfl) (by kernel_rfl) Tryz.sizeOf46 rfl (one_of (by kernel_rfl)) hw ?_)
  intro w2 e1; replace h := h w2 e1; clear hw e1
  refine wl_end (by kernel_rfl) ?_
  refine then_normal ?_
  refine wp_ret ?_
  obtain ⟨x2, x3, d1, hl0_0, hx0, h⟩ := h
  exact rp_retR (vs := [.slice none 0 0, .agg (([.int .i64 x2, .int .u32 x3] : List Value) ++ d1).toArray, .int .i64 0]) (v := .tuple #[.slice none 0 0, .agg (([.int .i64 x2, .int .u32 x3] : List Value) ++ d1).toArray, .int .i64 0]) Tryz.results48 ⟨res_tmp (by kernel_rfl), ⟨b1, 0, by kernel_rfl, run_loadN Tryz.isAgg46 Tryz.sizeOf46 (by simp [hl0_0]) hx0⟩, res_tmp (by kernel_rfl), trivial⟩ (by kernel_rfl) (by kernel_rfl) h

/- (*carling/image.plain).Root -/
def S_49 (p1 : Option Addr) (w : World) (Q : Value → World → Prop) : Prop :=
  ∀ b1 w1, b1 = w.heap.size → w1 = w.alloc (.cells ([.int .i64 0, .int .u32 0, .int .u8 0, .int .u8 0, .int .u8 0, .int .u8 0, .int .u8 0, .int .u8 0, .int .u8 0, .int .u8 0, .int .u8 0, .int .u8 0, .int .u8 0, .int .u8 0, .int .u8 0, .int .u8 0, .int .u8 0, .int .u8 0, .int .u8 0, .int .u8 0, .int .u8 0, .int .u8 0, .int .u8 0, .int .u8 0, .int .u8 0, .int .u8 0, .int .u8 0, .int .u8 0, .int .u8 0, .int .u8 0, .int .u8 0, .int .u8 0, .int .u8 0, .int .u8 0] : List Value).toArray 46) →
  w1.there b1 0 34 ∧
  ∀ w2, w2 = w1.setCells b1 0 ([.int .i64 0, .int .u32 0, .int .u8 0, .int .u8 0, .int .u8 0, .int .u8 0, .int .u8 0, .int .u8 0, .int .u8 0, .int .u8 0, .int .u8 0, .int .u8 0, .int .u8 0, .int .u8 0, .int .u8 0, .int .u8 0, .int .u8 0, .int .u8 0, .int .u8 0, .int .u8 0, .int .u8 0, .int .u8 0, .int .u8 0, .int .u8 0, .int .u8 0, .int .u8 0, .int .u8 0, .int .u8 0, .int .u8 0, .int .u8 0, .int .u8 0, .int .u8 0, .int .u8 0, .int .u8 0] : List Value) →
  ∃ (x1 : Int) (x2 : Int) (d1 : List Value), d1.length = 32 ∧ w2.rangeAt b1 0 (([.int .i64 x1, .int .u32 x2] : List Value) ++ d1) ∧ Q (.agg (([.int .i64 x1, .int .u32 x2] : List Value) ++ d1).toArray) w2
theorem L_49 (p1 : Option Addr) (w : World) (Q : Value → World → Prop) (h : S_49 p1 w Q) : Ret Tryz.prog 49 #[.pointer p1] w Q := by
  unfold S_49 at h
  refine ret_of_wp Tryz.func49 rfl ?_
  refine wp_seq ?_
  refine wp_reg ?_
  refine wl_op (op_alloc rfl (by kernel_rfl) Tryz.zeroValue46 ?_)
  intro b1 w1 e1 e2; replace h := h b1 w1 e1 e2; clear e1 e2
  refine wl_nil ?_
  refine then_normal ?_
  refine wp_seq ?_
  refine wp_reg ?_
  refine wl_pure 1 (by kernel_rfl) ?_
  obtain ⟨hw, h⟩ := h
  refine wl_op (op_storeN (cs := ([.int .i64 0, .int .u32 0, .int .u8 0, .int .u8 0, .int .u8 0, .int .u8 0, .int .u8 0, .int .u8 0, .int .u8 0, .int .u8 0, .int .u8 0, .int .u8 0, .int .u8 0, .int .u8 0, .int .u8 0, .int .u8 0, .int .u8 0, .int .u8 0, .int .u8 0, .int .u8 0, .int .u8 0, .int .u8 0, .int .u8 0, .int .u8 0, .int .u8 0, .int .u8 0, .int .u8 0, .int .u8 0, .int .u8 0, .int .u8 0, .int .u8 0, .int .u8 0, .int .u8 0, .int .u8 0] : List Value)) rfl (by kernel_rfl) (by kernel_rfl) (by kernel_rfl) Tryz.sizeOf46 rfl (one_of (by kernel_rfl)) hw ?_)
  intro w2 e1; replace h := h w2 e1; clear hw e1
  refine wl_nil ?_
  refine then_normal ?_
  refine wp_ret ?_
  obtain ⟨x1, x2, d1, hl0_0, hx0, h⟩ := h
  exact rp_retR (vs := [.agg (([.int .i64 x1, .int .u32 x2] : List Value) ++ d1).toArray]) (v := .agg (([.int .i64 x1, .int .u32 x2] : List Value) ++ d1).toArray) Tryz.results49 ⟨⟨b1, 0, by kernel_rfl, run_loadN Tryz.isAgg46 Tryz.sizeOf46 (by simp [hl0_0]) hx0⟩, trivial⟩ (by kernel_rfl) (by kernel_rfl) h

/- (*carling/image.plain).Set -/
def S_50 (p1 : Option Addr) (x1 : Int) (A1 : Option Addr) (n1 : Nat) (c1 : Nat) (w : World) (Q : Value → World → Prop) : Prop :=
  (x1 < 0 →
    Q (.int .i64 1) w) ∧
  (¬ x1 < 0 →
    ∃ b1 o1, p1 = some ⟨b1, o1, none⟩ ∧
    ∃ (A2 : Option Addr) (n2 : Nat) (c2 : Nat), w.cell? ⟨b1, o1, none⟩ = some (.slice A2 n2 c2) ∧
    (x1 ≥ ((n2 : Nat) : Int) →
      Q (.int .i64 1) w) ∧
    (¬ x1 ≥ ((n2 : Nat) : Int) →
      (((n1 : Nat) : Int) ≠ 256 →
        Q (.int .i64 1) w) ∧
      (((n1 : Nat) : Int) = 256 →
        ∀ w1, w1 = w.drew →
        ∃ (A3 : Option Addr) (n3 : Nat) (c3 : Nat), w.cell? ⟨b1, o1, none⟩ = some (.slice A3 n3 c3) ∧
        Ret Tryz.prog 51 #[.slice A1 n1 c1] w1 fun r1 w2 => ∃ (A4 : Option Addr) (n4 : Nat) (c4 : Nat), r1 = .slice A4 n4 c4 ∧ 
          Keep w w2 ∧
          ∃ b2 o2, A3 = some ⟨b2, o2, none⟩ ∧ (0 : Int) ≤ x1 ∧ x1 < ((n3 : Nat) : Int) ∧
          (w2.cell? ⟨b2, (o2 + (x1).toNat * 1), none⟩).isSome = true ∧ w2.frozen? ⟨b2, (o2 + (x1).toNat * 1), none⟩ = false ∧
          ∀ w3, w3 = w2.setCell ⟨b2, (o2 + (x1).toNat * 1), none⟩ (.slice A4 n4 c4) →
          Q (.int .i64 0) w3)))
theorem L_50 (p1 : Option Addr) (x1 : Int) (A1 : Option Addr) (n1 : Nat) (c1 : Nat) (w : World) (Q : Value → World → Prop) (h : S_50 p1 x1 A1 n1 c1 w Q) : Ret Tryz.prog 50 #[.pointer p1, .int .i64 x1, .slice A1 n1 c1] w Q := by
  unfold S_50 at h
  refine ret_of_wp Tryz.func50 rfl ?_
  refine wp_seq ?_
  refine wp_reg ?_
  refine wl_end (by kernel_rfl) ?_
  refine then_normal ?_
  refine wp_seq ?_
  refine wp_seq ?_
  refine wp_reg ?_
  refine wl_pure 3 (by kernel_rfl) ?_
  refine wl_split (e := (decide (x1 < 0))) ?_ ?_
  · intro hb; refine wl_lit 9 (e := (decide (x1 < 0))) (b := true) (by kernel_rfl) hb ?_
    replace h := h.1 (of_decide_eq_true hb)
    clear hb
    refine wl_end (by kernel_rfl) ?_
    refine then_normal ?_
    refine wp_cond_true (by kernel_rfl) ?_
    refine wp_seq ?_
    refine wp_reg ?_
    refine wl_end (by kernel_rfl) ?_
    refine then_normal ?_
    refine wp_ret ?_
    refine then_ret ?_
    exact rp_ret (v := .int .i64 1) (by kernel_rfl) (by kernel_rfl) h
  · intro hb; refine wl_lit 9 (e := (decide (x1 < 0))) (b := false) (by kernel_rfl) hb ?_
    replace h := h.2 (of_decide_eq_false hb)
    clear hb
    refine wl_pure 2 (by kernel_rfl) ?_
    obtain ⟨b1, o1, rfl, h⟩ := h
    refine wl_op (op_pure (v := .pointer (some ⟨b1, o1, none⟩)) (by kernel_rfl) (by kernel_rfl) ?_)
    refine wl_pure 1 (by kernel_rfl) ?_
    obtain ⟨A2, n2, c2, hx, h⟩ := h
    refine wl_op (op_load (v := .slice A2 n2 c2) rfl (by kernel_rfl) (by kernel_rfl) Tryz.isAgg27 hx ?_)
    clear hx
    refine wl_pure 4 (by kernel_rfl) ?_
    refine wl_split (e := (decide (x1 ≥ ((n2 : Nat) : Int)))) ?_ ?_
    · intro hb; refine wl_lit 18 (e := (decide (x1 ≥ ((n2 : Nat) : Int)))) (b := true) (by kernel_rfl) hb ?_
      replace h := h.1 (of_decide_eq_true hb)
      clear hb
      refine wl_end (by kernel_rfl) ?_
      refine then_normal ?_
      refine wp_cond_true (by kernel_rfl) ?_
      refine wp_seq ?_
      refine wp_reg ?_
      refine wl_end (by kernel_rfl) ?_
      refine then_normal ?_
      refine wp_ret ?_
      refine then_ret ?_
      exact rp_ret (v := .int .i64 1) (by kernel_rfl) (by kernel_rfl) h
    · intro hb; refine wl_lit 18 (e := (decide (x1 ≥ ((n2 : Nat) : Int)))) (b := false) (by kernel_rfl) hb ?_
      replace h := h.2 (of_decide_eq_false hb)
      clear hb
      refine wl_end (by kernel_rfl) ?_
      refine then_normal ?_
      refine wp_cond_split (t := (((n1 : Nat) : Int) != 256)) (by kernel_rfl) (fun hb => ?_) (fun hb => ?_)
      · replace h := h.1 (bne_iff_ne.1 hb)
        clear hb
        refine wp_seq ?_
        refine wp_reg ?_
        refine wl_end (by kernel_rfl) ?_
        refine then_normal ?_
        refine wp_ret ?_
        refine then_ret ?_
        exact rp_ret (v := .int .i64 1) (by kernel_rfl) (by kernel_rfl) h
      · replace h := h.2 (bne_false hb)
        clear hb
        refine wp_skip ?_
        refine then_normal ?_
        refine wp_seq ?_
        refine wd_begin (by kernel_rfl) (Keep w) [8] ?_
        intro w1 e1; have hK1 := keep_drew e1; replace h := h w1 e1; clear e1
        refine wd_takeP 0 rfl (by kernel_rfl) (fun _ _ _ h => h) (y_pure (v := .pointer (some ⟨b1, o1, none⟩)) (by kernel_rfl) (by kernel_rfl)) ?_
        refine wd_takeP 1 rfl (by kernel_rfl) (fun _ _ _ h => h) (y_pure (v := .pointer (some ⟨b1, o1, none⟩)) (by kernel_rfl) (by kernel_rfl)) ?_
        refine wd_takeP 2 rfl (by kernel_rfl) (fun _ _ _ h => h) (y_pure (v := .pointer (some ⟨b1, o1, none⟩)) (by kernel_rfl) (by kernel_rfl)) ?_
        obtain ⟨A3, n3, c3, hx, h⟩ := h
        refine wd_take 3 rfl (by kernel_rfl) (fun _ _ _ h => h) (y_load (v := .slice A3 n3 c3) rfl (by kernel_rfl) (by kernel_rfl) Tryz.isAgg27 (fun _ hk => keep_cell hk hx)) hK1 ?_
        clear hx
        refine wd_takeP 4 rfl (by kernel_rfl) (fun _ _ _ h => h) (y_pure (v := .int .i64 x1) (by kernel_rfl) (by kernel_rfl)) ?_
        refine wd_takeP 5 rfl (by kernel_rfl) (fun _ _ _ h => h) (y_pure (v := .slice A1 n1 c1) (by kernel_rfl) (by kernel_rfl)) ?_
        refine wd_one 6 rfl (by kernel_rfl) (by kernel_rfl) (op_callf (args := #[.slice A1 n1 c1]) rfl (by kernel_rfl) (by kernel_rfl) Tryz.call51 (Ret.mono h ?_))
        clear h; rintro r1 w2 ⟨A4, n4, c4, rfl, h⟩
        obtain ⟨hK2, h⟩ := h
        refine ⟨fun _ _ => hK2, ?_⟩
        obtain ⟨b2, o2, rfl, h⟩ := h
        obtain ⟨h1, h2, h⟩ := h
        refine wd_takeP 7 rfl (by kernel_rfl) (fun _ _ _ h => h) (y_index (k := .i64) (j := x1) (b := b2) (off := o2) (n := n3) (c := c3) rfl (by kernel_rfl) (by kernel_rfl) (by kernel_rfl) Tryz.underlying27 Tryz.sizeOf33 h1 h2) ?_
        clear h1 h2
        obtain ⟨hc, hf, h⟩ := h
        refine wd_one 8 rfl (by kernel_rfl) (by kernel_rfl) (op_store (v := .slice A4 n4 c4) rfl (by kernel_rfl) (by kernel_rfl) (by kernel_rfl) Tryz.sizeOf33 rfl hc hf ?_)
        intro w3 e1; replace h := h w3 e1; clear hc hf e1
        refine ⟨fun hh => absurd hh (by decide), ?_⟩
        refine wd_done (by kernel_rfl) ?_
        refine then_normal ?_
        refine wp_seq ?_
        refine wp_reg ?_
        refine wl_end (by kernel_rfl) ?_
        refine then_normal ?_
        refine wp_ret ?_
        exact rp_ret (v := .int .i64 0) (by kernel_rfl) (by kernel_rfl) h

/- bytes.Clone -/
def S_51 (A1 : Option Addr) (n1 : Nat) (c1 : Nat) (w : World) (Q : Value → World → Prop) : Prop :=
  (A1 = none →
    Q (.slice none 0 0) w) ∧
  (A1 ≠ none →
    ∀ b1 w1, b1 = w.heap.size → w1 = w.alloc (.cells #[] 5) →
    ∃ l1 l2 : List Value, (0 + n1) * 1 ≤ 140737488355328 ∧ l1.length = 0 * 1 ∧ RdS w1 (some ⟨b1, 0, none⟩) l1 ∧ l2.length = n1 * 1 ∧ RdS w1 A1 l2 ∧ One l2 ∧ (0 + n1 ≤ 0 → Room w1 (some ⟨b1, 0, none⟩) (0 * 1) (n1 * 1)) ∧
    ∀ A2 c2 w2, Appended w1 5 1 #[.int .u8 0] (some ⟨b1, 0, none⟩) 0 0 n1 l1 l2 A2 c2 w2 →
    Q (.slice A2 (0 + n1) c2) w2)
theorem L_51 (A1 : Option Addr) (n1 : Nat) (c1 : Nat) (w : World) (Q : Value → World → Prop) (h : S_51 A1 n1 c1 w Q) : Ret Tryz.prog 51 #[.slice A1 n1 c1] w Q := by
  unfold S_51 at h
  refine ret_of_wp Tryz.func51 rfl ?_
  refine wp_seq ?_
  refine wp_reg ?_
  refine wl_end (by kernel_rfl) ?_
  refine then_normal ?_
  refine wp_seq ?_
  refine wp_seq ?_
  refine wp_reg ?_
  refine wl_pure 1 (by kernel_rfl) ?_
  refine wl_op (op_eq_slice_nil (A := A1) (n := n1) (c := c1) rfl (by kernel_rfl) (by kernel_rfl) (by kernel_rfl) Tryz.underlying33 ?_)
  refine wl_nil ?_
  refine then_normal ?_
  refine wp_cond_split (t := A1.isNone) (by kernel_rfl) (fun hb => ?_) (fun hb => ?_)
  · replace h := h.1 (Option.isNone_iff_eq_none.1 hb)
    clear hb
    refine wp_seq ?_
    refine wp_reg ?_
    refine wl_end (by kernel_rfl) ?_
    refine then_normal ?_
    refine wp_ret ?_
    refine then_ret ?_
    exact rp_ret (v := .slice none 0 0) (by kernel_rfl) (by kernel_rfl) h
  · replace h := h.2 (ne_none_of hb)
    clear hb
    refine wp_skip ?_
    refine then_normal ?_
    refine wp_seq ?_
    refine wp_reg ?_
    refine wl_op (op_bslice0 rfl (by kernel_rfl) Tryz.underlying33 Tryz.sizeOf5 ?_)
    intro b1 w1 e1 e2; replace h := h b1 w1 e1 e2; clear e1 e2
    refine wl_pure 1 (by kernel_rfl) ?_
    obtain ⟨l1, l2, h1, h2, h3, h4, h5, h6, h7, h⟩ := h
    refine wl_op (op_append (A := (some ⟨b1, 0, none⟩)) (n := 0) (c := 0) (B := A1) (m := n1) (c2 := c1) (olds := l1) (news := l2) rfl (by kernel_rfl) (by kernel_rfl) (by kernel_rfl) Tryz.underlying33 Tryz.underlying33 Tryz.typeInfo5 rfl (by decide) h1 h2 h3 h4 h5 h6 h7 ?_)
    intro A2 c2 w2 e1; replace h := h A2 c2 w2 e1; clear h1 h2 h3 h4 h5 h6 h7 e1
    refine wl_end (by kernel_rfl) ?_
    refine then_normal ?_
    refine wp_ret ?_
    exact rp_ret (v := .slice A2 (0 + n1) c2) (by kernel_rfl) (by kernel_rfl) h

end Go.Proofs.YtccfdbldmnkgcaaGreat
