/-
 For each function: what it asks of the world that it is called in (S_n), and that this suffices (L_n). Written by a program of this proof (gen.py) off the function's own print.
-/
import Derived.Test.YtpkfdhlkknanmaaGreatDrx
import Derived.Test.YtpkfdhlkknanmaaGreatProg
set_option linter.all false
set_option maxRecDepth 4000
namespace Go.Proofs.YtpkfdhlkknanmaaGreat
open Go Go.RowKit Go.Proofs
def S_7  (w : World) (Q : Value → World → Prop) : Prop :=
 Ret Tryz.prog 4 #[.int .i64 1] w fun r1 w1 => ∃ A1 n1 c1 x1, r1 = .tuple #[.agg #[.slice A1 n1 c1], .int .i64 x1] ∧
 ∀ b1 w2, b1 = w1.heap.size → w2 = w1.alloc (.cells #[.slice none 0 0] 32) →
 w2.there b1 0 1 ∧
 ∀ w3, w3 = w2.setCells b1 0 ([.slice A1 n1 c1] : List Value) →
 ∃ J1 : (Option Addr) → Nat → Nat → (Option Addr) → Nat → Nat → (Option Addr) → Int → World → Prop, (∀ A4 n4 c4 A5 n5 c5 p2 x3 w4, J1 A4 n4 c4 A5 n5 c5 p2 x3 w4 →
 (x3 = 0 →
 ((n4 : Int) = 2 →
 ∃ b2 o1, A4 = some ⟨b2, o1, none⟩ ∧ (0 : Int) ≤ 0 ∧ 0 < (n4 : Int) ∧
 ∃ x4, w4.cell? ⟨b2, (o1 + 0 * 2), none⟩ = some (.int .i64 x4) ∧
 (x4 = 2 →
 (0 : Int) ≤ 1 ∧ 1 < (n4 : Int) ∧
 ∃ x5, w4.cell? ⟨b2, (o1 + 1 * 2), none⟩ = some (.int .i64 x5) ∧
 (x5 = 5 →
 ∃ b3 o2, p2 = some ⟨b3, o2, none⟩ ∧
 ∃ x6, w4.cell? ⟨b3, o2, none⟩ = some (.int .i64 x6) ∧
 (x6 = 1 →
 ∃ x7, w4.cell? ⟨b3, (o2 + 1), none⟩ = some (.int .u32 x7) ∧
 (x7 = 2 →
 ((n5 : Int) = 1 →
 ∃ A6 n6 c6, w4.rangeAt b1 0 ([.slice A6 n6 c6] : List Value) ∧
 ∀ b4 w5, b4 = w4.heap.size → w5 = w4.alloc (.cells #[.int .i64 0] 3) →
 Ret Tryz.prog 15 #[.agg #[.slice A6 n6 c6], .slice (some ⟨b4, 0, none⟩) 1 1] w5 fun r2 w6 => ∃ A7 n7 c7, r2 = .slice A7 n7 c7 ∧
 Q (.bool ((n7 : Int) == 1)) w6) ∧
 ((n5 : Int) ≠ 1 →
 Q (.bool false) w4)) ∧
 (x7 ≠ 2 →
 Q (.bool false) w4)) ∧
 (x6 ≠ 1 →
 Q (.bool false) w4)) ∧
 (x5 ≠ 5 →
 Q (.bool false) w4)) ∧
 (x4 ≠ 2 →
 Q (.bool false) w4)) ∧
 ((n4 : Int) ≠ 2 →
 Q (.bool false) w4)) ∧
 (x3 ≠ 0 →
 Q (.bool false) w4)) ∧
 ∀ w7, w7 = w3.drew →
 ∃ A8 n8 c8, w3.rangeAt b1 0 ([.slice A8 n8 c8] : List Value) ∧
 ∀ bF1_4 bF1_6 bF1_7 bF1_9 wp1_0, Ext w7 wp1_0 → Fl w7.heap.size [] wp1_0 [(bF1_4, 46, (([.int .i64 1, .int .u32 0] : List Value) ++ (List.replicate 32 (.int .u8 0 : Value))).toArray), (bF1_6, 67, #[.int .i64 1, .slice (some ⟨bF1_4, 0, none⟩) 1 1]), (bF1_7, 5, (madeCells #[.int .u8 0] (256 * 1))), (bF1_9, 68, #[.int .i64 0, .slice (some ⟨bF1_7, 0, none⟩) 256 256])] →
 Ret Tryz.prog 9 #[.pointer none, .agg (List.replicate 32 (.int .u8 0 : Value)).toArray, .int .u32 2, .agg #[.slice A8 n8 c8], .agg (([.int .i64 0, .int .u32 0] : List Value) ++ (List.replicate 32 (.int .u8 0 : Value))).toArray, .slice (some ⟨bF1_6, 0, none⟩) 1 1, .slice (some ⟨bF1_9, 0, none⟩) 1 1] wp1_0 fun rr1 wq1_0 => ∃ (A9 : Option Addr) (n9 : Nat) (c9 : Nat) (A10 : Option Addr) (n10 : Nat) (c10 : Nat) (x8 : Int) (x9 : Int) (d1 : List Value) (x10 : Int), rr1 = .tuple #[.slice A9 n9 c9, .slice A10 n10 c10, .agg (([.int .i64 x8, .int .u32 x9] : List Value) ++ d1).toArray, .int .i64 x10] ∧ d1.length = 32 ∧ KeepFl w7.heap.size wp1_0 wq1_0 ∧
 ∀ bF1_16 wz1, Ext wq1_0 wz1 → Fl w7.heap.size [(wp1_0.heap.size, wq1_0.heap.size)] wz1 [(bF1_4, 46, (([.int .i64 1, .int .u32 0] : List Value) ++ (List.replicate 32 (.int .u8 0 : Value))).toArray), (bF1_6, 67, #[.int .i64 1, .slice (some ⟨bF1_4, 0, none⟩) 1 1]), (bF1_7, 5, (madeCells #[.int .u8 0] (256 * 1))), (bF1_9, 68, #[.int .i64 0, .slice (some ⟨bF1_7, 0, none⟩) 256 256]), (bF1_16, 46, (([.int .i64 0, .int .u32 0] : List Value) ++ (List.replicate 32 (.int .u8 0 : Value))).toArray)] →
 (([.int .i64 x8, .int .u32 x9] : List Value) ++ d1).length = 34 ∧ One (([.int .i64 x8, .int .u32 x9] : List Value) ++ d1) ∧ wz1.there bF1_16 0 34 ∧
 ∀ w1012, w1012 = wz1.setCells bF1_16 0 (([.int .i64 x8, .int .u32 x9] : List Value) ++ d1) →
 J1 A9 n9 c9 A10 n10 c10 (some ⟨bF1_16, 0, none⟩) x10 w1012
theorem L_7  (w : World) (Q : Value → World → Prop) (h : S_7  w Q) : Ret Tryz.prog 7 #[] w Q := by
 unfold S_7 at h
 refine ret_of_wp Tryz.func7 rfl (wp_seq (qx (qbr (qz (wp_seq (qx (qq (qai (args := #[.int .i64 1]) rfl Tryz.call4 (Ret.mono h ?_)))))))))
 clear h; rintro _ w1 ⟨A1, n1, c1, x1, rfl, h⟩
 refine qbt 3 (qq (qac rfl Tryz.zeroValue32 ?_))
 intro b1 w2 e1 e2; replace h := h b1 w2 e1 e2
 obtain ⟨hw, h⟩ := h
 refine qq (qbd (cs := ([.slice A1 n1 c1] : List Value)) rfl Tryz.sizeOf32 rfl (qab) hw ?_)
 intro w3 e1; replace h := h w3 e1
 refine qbr (qz ?_)
 obtain ⟨J1, hJ1, h⟩ := h
 refine wp_seq_join (σ := (Option Addr) × Nat × Nat × (Option Addr) × Nat × Nat × (Option Addr) × Int) (fun s vj1 => ⟨#[.bool false, .pointer (some ⟨b1, 0, none⟩), .int .i64 x1, .slice s.1 s.2.1 s.2.2.1, .slice s.2.2.2.1 s.2.2.2.2.1 s.2.2.2.2.2.1, .pointer s.2.2.2.2.2.2.1, .int .i64 s.2.2.2.2.2.2.2, .tuple #[.agg #[.slice A1 n1 c1], .int .i64 x1], .tuple #[.agg #[.slice A1 n1 c1], .int .i64 x1], .agg #[.slice A1 n1 c1], .int .i64 x1, vj1 11, vj1 12, vj1 13, vj1 14, vj1 15, vj1 16, vj1 17, vj1 18, vj1 19, vj1 20, vj1 21, vj1 22, vj1 23, vj1 24, vj1 25, vj1 26, undef, undef, undef, undef, undef, undef, undef, undef, undef, undef, undef, undef, undef, undef, undef, undef, undef, undef, undef, undef, undef, undef, undef, undef, undef, undef, undef, undef, undef, undef, undef, undef, undef, undef, undef, undef, undef, undef, undef, undef, undef, undef, undef], []⟩) (fun s w => J1 s.1 s.2.1 s.2.2.1 s.2.2.2.1 s.2.2.2.2.1 s.2.2.2.2.2.1 s.2.2.2.2.2.2.1 s.2.2.2.2.2.2.2 w) ?_ ?_
 ·clear h; rintro ⟨A4, n4, c4, A5, n5, c5, p2, x3⟩ vj1 w4 hj
  have h := hJ1 A4 n4 c4 A5 n5 c5 p2 x3 w4 hj
  refine wp_seq (qx (qbt 3 (wl_split (e := (x3 == 0)) ?_ ?_)))
  ·intro hb; refine qbs 29 (e := (x3 == 0)) (b := true) hb ?_
   replace h := h.1 (eq_of_beq hb)
   refine qbt 5 (wl_split (e := ((n4 : Int) == 2)) ?_ ?_)
   ·intro hb; refine qbs 34 (e := ((n4 : Int) == 2)) (b := true) hb ?_
    replace h := h.1 (eq_of_beq hb)
    refine qbt 1 ?_
    obtain ⟨b2, o1, rfl, h⟩ := h
    obtain ⟨h1, h2, h⟩ := h
    refine qq (qan (k := .i64) (j := 0) (b := b2) (off := o1) (n := n4) (c := c4) rfl Tryz.underlying44 Tryz.sizeOf70 h1 h2 ?_)
    refine qbt 1 ?_
    obtain ⟨x4, hx, h⟩ := h
    refine qq (qap (v := .int .i64 x4) rfl Tryz.isAgg3 hx ?_)
    refine qbt 3 (wl_split (e := (x4 == 2)) ?_ ?_)
    ·intro hb; refine qbs 41 (e := (x4 == 2)) (b := true) hb ?_
     replace h := h.1 (eq_of_beq hb)
     refine qbt 1 ?_
     obtain ⟨h1, h2, h⟩ := h
     refine qq (qan (k := .i64) (j := 1) (b := b2) (off := o1) (n := n4) (c := c4) rfl Tryz.underlying44 Tryz.sizeOf70 h1 h2 ?_)
     refine qbt 1 ?_
     obtain ⟨x5, hx, h⟩ := h
     refine qq (qap (v := .int .i64 x5) rfl Tryz.isAgg3 hx ?_)
     refine qbt 3 (wl_split (e := (x5 == 5)) ?_ ?_)
     ·intro hb; refine qbs 48 (e := (x5 == 5)) (b := true) hb ?_
      replace h := h.1 (eq_of_beq hb)
      obtain ⟨b3, o2, rfl, h⟩ := h
      refine qbt 1 ?_
      obtain ⟨x6, hx, h⟩ := h
      refine qq (qap (v := .int .i64 x6) rfl Tryz.isAgg3 hx ?_)
      refine qbt 3 (wl_split (e := (x6 == 1)) ?_ ?_)
      ·intro hb; refine qbs 53 (e := (x6 == 1)) (b := true) hb ?_
       replace h := h.1 (eq_of_beq hb)
       refine qbt 1 ?_
       obtain ⟨x7, hx, h⟩ := h
       refine qq (qap (v := .int .u32 x7) rfl Tryz.isAgg23 hx ?_)
       refine qbt 3 (wl_split (e := (x7 == 2)) ?_ ?_)
       ·intro hb; refine qbs 58 (e := (x7 == 2)) (b := true) hb ?_
        replace h := h.1 (eq_of_beq hb)
        refine qbt 5 (wl_split (e := ((n5 : Int) == 1)) ?_ ?_)
        ·intro hb; refine qbs 63 (e := ((n5 : Int) == 1)) (b := true) hb ?_
         replace h := h.1 (eq_of_beq hb)
         obtain ⟨A6, n6, c6, hx, h⟩ := h
         refine qq (qaq (cs := ([.slice A6 n6 c6] : List Value)) rfl Tryz.isAgg32 Tryz.sizeOf32 (by simp []) hx ?_)
         refine qq (qag (cs := ([.int .i64 0] : List Value)) rfl Tryz.underlying30 Tryz.sizeOf3 Tryz.zeroValue3 (by kernel_rfl) (by decide) (by decide) ?_)
         intro b4 w5 e1 e2; replace h := h b4 w5 e1 e2
         refine qq (qai (args := #[.agg #[.slice A6 n6 c6], .slice (some ⟨b4, 0, none⟩) 1 1]) rfl Tryz.call15 (Ret.mono h ?_))
         clear h; rintro _ w6 ⟨A7, n7, c7, rfl, h⟩
         refine qbr (qz (wp_ret ?_))
         exact qbh (v := .bool ((n7 : Int) == 1)) h
        ·intro hb; refine qbs 63 (e := ((n5 : Int) == 1)) (b := false) hb ?_
         replace h := h.2 (ne_of_beq_false hb)
         refine qbr (qz (wp_ret ?_))
         exact qbh (v := .bool false) h
       ·intro hb; refine qbs 58 (e := (x7 == 2)) (b := false) hb ?_
        replace h := h.2 (ne_of_beq_false hb)
        refine qbr (qz (wp_ret ?_))
        exact qbh (v := .bool false) h
      ·intro hb; refine qbs 53 (e := (x6 == 1)) (b := false) hb ?_
       replace h := h.2 (ne_of_beq_false hb)
       refine qbr (qz (wp_ret ?_))
       exact qbh (v := .bool false) h
     ·intro hb; refine qbs 48 (e := (x5 == 5)) (b := false) hb ?_
      replace h := h.2 (ne_of_beq_false hb)
      refine qbr (qz (wp_ret ?_))
      exact qbh (v := .bool false) h
    ·intro hb; refine qbs 41 (e := (x4 == 2)) (b := false) hb ?_
     replace h := h.2 (ne_of_beq_false hb)
     refine qbr (qz (wp_ret ?_))
     exact qbh (v := .bool false) h
   ·intro hb; refine qbs 34 (e := ((n4 : Int) == 2)) (b := false) hb ?_
    replace h := h.2 (ne_of_beq_false hb)
    refine qbr (qz (wp_ret ?_))
    exact qbh (v := .bool false) h
  ·intro hb; refine qbs 29 (e := (x3 == 0)) (b := false) hb ?_
   replace h := h.2 (ne_of_beq_false hb)
   refine qbr (qz (wp_ret ?_))
   exact qbh (v := .bool false) h
 ·clear hJ1
  refine qbj (Keep w3) [10, 19] ?_
  intro w7 e1; have hK1 := keep_drew e1; replace h := h w7 e1; have hz : w3.heap.size ≤ w7.heap.size := (by rw [e1]; exact Nat.le_refl _)
  refine qbo 0 rfl (qbz (v := .agg (List.replicate 32 (.int .u8 0 : Value)).toArray)) ?_
  obtain ⟨A8, n8, c8, hx, h⟩ := h
  refine qbn 1 rfl (qbx (cs := ([.slice A8 n8 c8] : List Value)) rfl Tryz.isAgg32 Tryz.sizeOf32 (by simp []) (fun _ hk => keep_range hk hx)) hK1 ?_
  refine qbo 2 rfl (qbz (v := .agg (([.int .i64 0, .int .u32 0] : List Value) ++ (List.replicate 32 (.int .u8 0 : Value))).toArray)) (qbo 3 rfl (qbz (v := .agg (([.int .i64 1, .int .u32 0] : List Value) ++ (List.replicate 32 (.int .u8 0 : Value))).toArray)) ?_)
  have hE : Ext w7 w7 := Mod.refl _ _; have hF := Fl.nil w7
  refine qbp 4 7 16 rfl rfl rfl ?_ ?_ ?_
  refine (qag (cs := (([.int .i64 1, .int .u32 0] : List Value) ++ (List.replicate 32 (.int .u8 0 : Value)))) rfl Tryz.underlying65 Tryz.sizeOf46 Tryz.zeroValue46 (by kernel_rfl) (by decide) (by decide) ?_)
  intro bF1_4 w8 e1 e2
  have hA := (Mod.refl (fun _ => False) w7).alloc e2
  refine ⟨fun _ hk => Keep.of_ext hk hz hA, ?_⟩
  have hE := hE.trans hA; have hF := hF.alloc (cs := (([.int .i64 1, .int .u32 0] : List Value) ++ (List.replicate 32 (.int .u8 0 : Value))).toArray) (t := 46) e1 e2; have hz := Nat.le_trans hz hA.size
  refine qbo 5 rfl (qbz (v := .agg #[.int .i64 1, .slice (some ⟨bF1_4, 0, none⟩) 1 1])) (qbp 6 7 16 rfl rfl rfl ?_ ?_ ?_)
  refine (qag (cs := ([.int .i64 1, .slice (some ⟨bF1_4, 0, none⟩) 1 1] : List Value)) rfl Tryz.underlying45 Tryz.sizeOf67 Tryz.zeroValue67 (by kernel_rfl) (by decide) (by decide) ?_)
  intro bF1_6 w9 e1 e2
  have hA := (Mod.refl (fun _ => False) w8).alloc e2
  refine ⟨fun _ hk => Keep.of_ext hk hz hA, ?_⟩
  have hE := hE.trans hA; have hF := hF.alloc (cs := #[.int .i64 1, .slice (some ⟨bF1_4, 0, none⟩) 1 1]) (t := 67) e1 e2; have hz := Nat.le_trans hz hA.size
  refine qbq 7 16 rfl rfl ?_ ?_
  refine (qas (kl := .i64) (kc := .i64) (l := 256) (c := 256) rfl Tryz.underlying62 Tryz.typeInfo5 rfl (by decide) (by decide) (by decide) (by decide) ?_)
  intro bF1_7 w10 e1 e2
  have hA := (Mod.refl (fun _ => False) w9).alloc e2
  refine ⟨fun _ hk => Keep.of_ext hk hz hA, ?_⟩
  have hE := hE.trans hA; have hF := hF.alloc (cs := (madeCells #[.int .u8 0] (256 * 1))) (t := 5) e1 e2; have hz := Nat.le_trans hz hA.size
  refine qbo 8 rfl (qbz (v := .agg #[.int .i64 0, .slice (some ⟨bF1_7, 0, none⟩) 256 256])) (qbq 9 16 rfl rfl ?_ ?_)
  refine (qag (cs := ([.int .i64 0, .slice (some ⟨bF1_7, 0, none⟩) 256 256] : List Value)) rfl Tryz.underlying50 Tryz.sizeOf68 Tryz.zeroValue68 (by kernel_rfl) (by decide) (by decide) ?_)
  intro bF1_9 w11 e1 e2
  have hA := (Mod.refl (fun _ => False) w10).alloc e2
  refine ⟨fun _ hk => Keep.of_ext hk hz hA, ?_⟩
  have hE := hE.trans hA; have hF := hF.alloc (cs := #[.int .i64 0, .slice (some ⟨bF1_7, 0, none⟩) 256 256]) (t := 68) e1 e2; have hz := Nat.le_trans hz hA.size
  refine qbq 10 16 rfl rfl ?_ ?_
  rotate_left
  refine (qac rfl Tryz.zeroValue46 ?_)
  intro bF1_16 w1013 e1 e2
  have hA := (Mod.refl (fun _ => False) w11).alloc e2
  refine ⟨fun _ hk => Keep.of_ext hk hz hA, ?_⟩
  have hE := hE.trans hA; have hF := hF.alloc (cs := (([.int .i64 0, .int .u32 0] : List Value) ++ (List.replicate 32 (.int .u8 0 : Value))).toArray) (t := 46) e1 e2; have hz := Nat.le_trans hz hA.size
  refine qbm 10 rfl ?_
  rotate_left
  refine (qac rfl Tryz.zeroValue46 ?_)
  intro bF1_16 w1014 e1 e2
  have hA := (Mod.refl (fun _ => False) w10).alloc e2
  refine ⟨fun _ hk => Keep.of_ext hk hz hA, ?_⟩
  have hE := hE.trans hA; have hF := hF.alloc (cs := (([.int .i64 0, .int .u32 0] : List Value) ++ (List.replicate 32 (.int .u8 0 : Value))).toArray) (t := 46) e1 e2; have hz := Nat.le_trans hz hA.size
  refine qbm 9 rfl ((qag (cs := ([.int .i64 0, .slice (some ⟨bF1_7, 0, none⟩) 256 256] : List Value)) rfl Tryz.underlying50 Tryz.sizeOf68 Tryz.zeroValue68 (by kernel_rfl) (by decide) (by decide) ?_))
  intro bF1_9 w1015 e1 e2
  have hA := (Mod.refl (fun _ => False) w1014).alloc e2
  refine ⟨fun _ hk => Keep.of_ext hk hz hA, ?_⟩
  have hE := hE.trans hA; have hF := hF.alloc (cs := #[.int .i64 0, .slice (some ⟨bF1_7, 0, none⟩) 256 256]) (t := 68) e1 e2; have hz := Nat.le_trans hz hA.size
  refine qbm 10 rfl ?_
  rotate_left
  refine (qac rfl Tryz.zeroValue46 ?_)
  intro bF1_16 w1016 e1 e2
  have hA := (Mod.refl (fun _ => False) w9).alloc e2
  refine ⟨fun _ hk => Keep.of_ext hk hz hA, ?_⟩
  have hE := hE.trans hA; have hF := hF.alloc (cs := (([.int .i64 0, .int .u32 0] : List Value) ++ (List.replicate 32 (.int .u8 0 : Value))).toArray) (t := 46) e1 e2; have hz := Nat.le_trans hz hA.size
  refine qbm 7 rfl ((qas (kl := .i64) (kc := .i64) (l := 256) (c := 256) rfl Tryz.underlying62 Tryz.typeInfo5 rfl (by decide) (by decide) (by decide) (by decide) ?_))
  intro bF1_7 w1017 e1 e2
  have hA := (Mod.refl (fun _ => False) w1016).alloc e2
  refine ⟨fun _ hk => Keep.of_ext hk hz hA, ?_⟩
  have hE := hE.trans hA; have hF := hF.alloc (cs := (madeCells #[.int .u8 0] (256 * 1))) (t := 5) e1 e2; have hz := Nat.le_trans hz hA.size
  refine qbo 8 rfl (qbz (v := .agg #[.int .i64 0, .slice (some ⟨bF1_7, 0, none⟩) 256 256])) (qbm 9 rfl ((qag (cs := ([.int .i64 0, .slice (some ⟨bF1_7, 0, none⟩) 256 256] : List Value)) rfl Tryz.underlying50 Tryz.sizeOf68 Tryz.zeroValue68 (by kernel_rfl) (by decide) (by decide) ?_)))
  intro bF1_9 w1018 e1 e2
  have hA := (Mod.refl (fun _ => False) w1017).alloc e2
  refine ⟨fun _ hk => Keep.of_ext hk hz hA, ?_⟩
  have hE := hE.trans hA; have hF := hF.alloc (cs := #[.int .i64 0, .slice (some ⟨bF1_7, 0, none⟩) 256 256]) (t := 68) e1 e2; have hz := Nat.le_trans hz hA.size
  refine qbm 10 rfl ?_
  rotate_left
  refine (qas (kl := .i64) (kc := .i64) (l := 256) (c := 256) rfl Tryz.underlying62 Tryz.typeInfo5 rfl (by decide) (by decide) (by decide) (by decide) ?_)
  intro bF1_7 w1019 e1 e2
  have hA := (Mod.refl (fun _ => False) w8).alloc e2
  refine ⟨fun _ hk => Keep.of_ext hk hz hA, ?_⟩
  have hE := hE.trans hA; have hF := hF.alloc (cs := (madeCells #[.int .u8 0] (256 * 1))) (t := 5) e1 e2; have hz := Nat.le_trans hz hA.size
  refine qbo 8 rfl (qbz (v := .agg #[.int .i64 0, .slice (some ⟨bF1_7, 0, none⟩) 256 256])) (qbp 6 9 16 rfl rfl rfl ?_ ?_ ?_)
  refine (qag (cs := ([.int .i64 1, .slice (some ⟨bF1_4, 0, none⟩) 1 1] : List Value)) rfl Tryz.underlying45 Tryz.sizeOf67 Tryz.zeroValue67 (by kernel_rfl) (by decide) (by decide) ?_)
  intro bF1_6 w1020 e1 e2
  have hA := (Mod.refl (fun _ => False) w1019).alloc e2
  refine ⟨fun _ hk => Keep.of_ext hk hz hA, ?_⟩
  have hE := hE.trans hA; have hF := hF.alloc (cs := #[.int .i64 1, .slice (some ⟨bF1_4, 0, none⟩) 1 1]) (t := 67) e1 e2; have hz := Nat.le_trans hz hA.size
  refine qbq 9 16 rfl rfl ?_ ?_
  refine (qag (cs := ([.int .i64 0, .slice (some ⟨bF1_7, 0, none⟩) 256 256] : List Value)) rfl Tryz.underlying50 Tryz.sizeOf68 Tryz.zeroValue68 (by kernel_rfl) (by decide) (by decide) ?_)
  intro bF1_9 w1021 e1 e2
  have hA := (Mod.refl (fun _ => False) w1020).alloc e2
  refine ⟨fun _ hk => Keep.of_ext hk hz hA, ?_⟩
  have hE := hE.trans hA; have hF := hF.alloc (cs := #[.int .i64 0, .slice (some ⟨bF1_7, 0, none⟩) 256 256]) (t := 68) e1 e2; have hz := Nat.le_trans hz hA.size
  refine qbq 10 16 rfl rfl ?_ ?_
  rotate_left
  refine (qac rfl Tryz.zeroValue46 ?_)
  intro bF1_16 w1022 e1 e2
  have hA := (Mod.refl (fun _ => False) w1021).alloc e2
  refine ⟨fun _ hk => Keep.of_ext hk hz hA, ?_⟩
  have hE := hE.trans hA; have hF := hF.alloc (cs := (([.int .i64 0, .int .u32 0] : List Value) ++ (List.replicate 32 (.int .u8 0 : Value))).toArray) (t := 46) e1 e2; have hz := Nat.le_trans hz hA.size
  refine qbm 10 rfl ?_
  rotate_left
  refine (qac rfl Tryz.zeroValue46 ?_)
  intro bF1_16 w1023 e1 e2
  have hA := (Mod.refl (fun _ => False) w1020).alloc e2
  refine ⟨fun _ hk => Keep.of_ext hk hz hA, ?_⟩
  have hE := hE.trans hA; have hF := hF.alloc (cs := (([.int .i64 0, .int .u32 0] : List Value) ++ (List.replicate 32 (.int .u8 0 : Value))).toArray) (t := 46) e1 e2; have hz := Nat.le_trans hz hA.size
  refine qbm 9 rfl ((qag (cs := ([.int .i64 0, .slice (some ⟨bF1_7, 0, none⟩) 256 256] : List Value)) rfl Tryz.underlying50 Tryz.sizeOf68 Tryz.zeroValue68 (by kernel_rfl) (by decide) (by decide) ?_))
  intro bF1_9 w1024 e1 e2
  have hA := (Mod.refl (fun _ => False) w1023).alloc e2
  refine ⟨fun _ hk => Keep.of_ext hk hz hA, ?_⟩
  have hE := hE.trans hA; have hF := hF.alloc (cs := #[.int .i64 0, .slice (some ⟨bF1_7, 0, none⟩) 256 256]) (t := 68) e1 e2; have hz := Nat.le_trans hz hA.size
  refine qbm 10 rfl ?_
  rotate_left
  refine (qag (cs := ([.int .i64 0, .slice (some ⟨bF1_7, 0, none⟩) 256 256] : List Value)) rfl Tryz.underlying50 Tryz.sizeOf68 Tryz.zeroValue68 (by kernel_rfl) (by decide) (by decide) ?_)
  intro bF1_9 w1025 e1 e2
  have hA := (Mod.refl (fun _ => False) w1019).alloc e2
  refine ⟨fun _ hk => Keep.of_ext hk hz hA, ?_⟩
  have hE := hE.trans hA; have hF := hF.alloc (cs := #[.int .i64 0, .slice (some ⟨bF1_7, 0, none⟩) 256 256]) (t := 68) e1 e2; have hz := Nat.le_trans hz hA.size
  refine qbq 6 16 rfl rfl ?_ ?_
  refine (qag (cs := ([.int .i64 1, .slice (some ⟨bF1_4, 0, none⟩) 1 1] : List Value)) rfl Tryz.underlying45 Tryz.sizeOf67 Tryz.zeroValue67 (by kernel_rfl) (by decide) (by decide) ?_)
  intro bF1_6 w1026 e1 e2
  have hA := (Mod.refl (fun _ => False) w1025).alloc e2
  refine ⟨fun _ hk => Keep.of_ext hk hz hA, ?_⟩
  have hE := hE.trans hA; have hF := hF.alloc (cs := #[.int .i64 1, .slice (some ⟨bF1_4, 0, none⟩) 1 1]) (t := 67) e1 e2; have hz := Nat.le_trans hz hA.size
  refine qbq 10 16 rfl rfl ?_ ?_
  rotate_left
  refine (qac rfl Tryz.zeroValue46 ?_)
  intro bF1_16 w1027 e1 e2
  have hA := (Mod.refl (fun _ => False) w1026).alloc e2
  refine ⟨fun _ hk => Keep.of_ext hk hz hA, ?_⟩
  have hE := hE.trans hA; have hF := hF.alloc (cs := (([.int .i64 0, .int .u32 0] : List Value) ++ (List.replicate 32 (.int .u8 0 : Value))).toArray) (t := 46) e1 e2; have hz := Nat.le_trans hz hA.size
  refine qbm 10 rfl ?_
  rotate_left
  refine (qac rfl Tryz.zeroValue46 ?_)
  intro bF1_16 w1028 e1 e2
  have hA := (Mod.refl (fun _ => False) w1025).alloc e2
  refine ⟨fun _ hk => Keep.of_ext hk hz hA, ?_⟩
  have hE := hE.trans hA; have hF := hF.alloc (cs := (([.int .i64 0, .int .u32 0] : List Value) ++ (List.replicate 32 (.int .u8 0 : Value))).toArray) (t := 46) e1 e2; have hz := Nat.le_trans hz hA.size
  refine qbm 6 rfl ((qag (cs := ([.int .i64 1, .slice (some ⟨bF1_4, 0, none⟩) 1 1] : List Value)) rfl Tryz.underlying45 Tryz.sizeOf67 Tryz.zeroValue67 (by kernel_rfl) (by decide) (by decide) ?_))
  intro bF1_6 w1029 e1 e2
  have hA := (Mod.refl (fun _ => False) w1028).alloc e2
  refine ⟨fun _ hk => Keep.of_ext hk hz hA, ?_⟩
  have hE := hE.trans hA; have hF := hF.alloc (cs := #[.int .i64 1, .slice (some ⟨bF1_4, 0, none⟩) 1 1]) (t := 67) e1 e2; have hz := Nat.le_trans hz hA.size
  refine qbm 10 rfl ?_
  rotate_left
  refine (qac rfl Tryz.zeroValue46 ?_)
  intro bF1_16 w1030 e1 e2
  have hA := (Mod.refl (fun _ => False) w1019).alloc e2
  refine ⟨fun _ hk => Keep.of_ext hk hz hA, ?_⟩
  have hE := hE.trans hA; have hF := hF.alloc (cs := (([.int .i64 0, .int .u32 0] : List Value) ++ (List.replicate 32 (.int .u8 0 : Value))).toArray) (t := 46) e1 e2; have hz := Nat.le_trans hz hA.size
  refine qbq 6 9 rfl rfl ?_ ?_
  refine (qag (cs := ([.int .i64 1, .slice (some ⟨bF1_4, 0, none⟩) 1 1] : List Value)) rfl Tryz.underlying45 Tryz.sizeOf67 Tryz.zeroValue67 (by kernel_rfl) (by decide) (by decide) ?_)
  intro bF1_6 w1031 e1 e2
  have hA := (Mod.refl (fun _ => False) w1030).alloc e2
  refine ⟨fun _ hk => Keep.of_ext hk hz hA, ?_⟩
  have hE := hE.trans hA; have hF := hF.alloc (cs := #[.int .i64 1, .slice (some ⟨bF1_4, 0, none⟩) 1 1]) (t := 67) e1 e2; have hz := Nat.le_trans hz hA.size
  refine qbm 9 rfl ((qag (cs := ([.int .i64 0, .slice (some ⟨bF1_7, 0, none⟩) 256 256] : List Value)) rfl Tryz.underlying50 Tryz.sizeOf68 Tryz.zeroValue68 (by kernel_rfl) (by decide) (by decide) ?_))
  intro bF1_9 w1032 e1 e2
  have hA := (Mod.refl (fun _ => False) w1031).alloc e2
  refine ⟨fun _ hk => Keep.of_ext hk hz hA, ?_⟩
  have hE := hE.trans hA; have hF := hF.alloc (cs := #[.int .i64 0, .slice (some ⟨bF1_7, 0, none⟩) 256 256]) (t := 68) e1 e2; have hz := Nat.le_trans hz hA.size
  refine qbm 10 rfl ?_
  rotate_left
  refine (qag (cs := ([.int .i64 0, .slice (some ⟨bF1_7, 0, none⟩) 256 256] : List Value)) rfl Tryz.underlying50 Tryz.sizeOf68 Tryz.zeroValue68 (by kernel_rfl) (by decide) (by decide) ?_)
  intro bF1_9 w1033 e1 e2
  have hA := (Mod.refl (fun _ => False) w1030).alloc e2
  refine ⟨fun _ hk => Keep.of_ext hk hz hA, ?_⟩
  have hE := hE.trans hA; have hF := hF.alloc (cs := #[.int .i64 0, .slice (some ⟨bF1_7, 0, none⟩) 256 256]) (t := 68) e1 e2; have hz := Nat.le_trans hz hA.size
  refine qbm 6 rfl ((qag (cs := ([.int .i64 1, .slice (some ⟨bF1_4, 0, none⟩) 1 1] : List Value)) rfl Tryz.underlying45 Tryz.sizeOf67 Tryz.zeroValue67 (by kernel_rfl) (by decide) (by decide) ?_))
  intro bF1_6 w1034 e1 e2
  have hA := (Mod.refl (fun _ => False) w1033).alloc e2
  refine ⟨fun _ hk => Keep.of_ext hk hz hA, ?_⟩
  have hE := hE.trans hA; have hF := hF.alloc (cs := #[.int .i64 1, .slice (some ⟨bF1_4, 0, none⟩) 1 1]) (t := 67) e1 e2; have hz := Nat.le_trans hz hA.size
  refine qbm 10 rfl ?_
  rotate_left
  refine (qac rfl Tryz.zeroValue46 ?_)
  intro bF1_16 w1035 e1 e2
  have hA := (Mod.refl (fun _ => False) w8).alloc e2
  refine ⟨fun _ hk => Keep.of_ext hk hz hA, ?_⟩
  have hE := hE.trans hA; have hF := hF.alloc (cs := (([.int .i64 0, .int .u32 0] : List Value) ++ (List.replicate 32 (.int .u8 0 : Value))).toArray) (t := 46) e1 e2; have hz := Nat.le_trans hz hA.size
  refine qbq 6 7 rfl rfl ?_ ?_
  refine (qag (cs := ([.int .i64 1, .slice (some ⟨bF1_4, 0, none⟩) 1 1] : List Value)) rfl Tryz.underlying45 Tryz.sizeOf67 Tryz.zeroValue67 (by kernel_rfl) (by decide) (by decide) ?_)
  intro bF1_6 w1036 e1 e2
  have hA := (Mod.refl (fun _ => False) w1035).alloc e2
  refine ⟨fun _ hk => Keep.of_ext hk hz hA, ?_⟩
  have hE := hE.trans hA; have hF := hF.alloc (cs := #[.int .i64 1, .slice (some ⟨bF1_4, 0, none⟩) 1 1]) (t := 67) e1 e2; have hz := Nat.le_trans hz hA.size
  refine qbm 7 rfl ((qas (kl := .i64) (kc := .i64) (l := 256) (c := 256) rfl Tryz.underlying62 Tryz.typeInfo5 rfl (by decide) (by decide) (by decide) (by decide) ?_))
  intro bF1_7 w1037 e1 e2
  have hA := (Mod.refl (fun _ => False) w1036).alloc e2
  refine ⟨fun _ hk => Keep.of_ext hk hz hA, ?_⟩
  have hE := hE.trans hA; have hF := hF.alloc (cs := (madeCells #[.int .u8 0] (256 * 1))) (t := 5) e1 e2; have hz := Nat.le_trans hz hA.size
  refine qbo 8 rfl (qbz (v := .agg #[.int .i64 0, .slice (some ⟨bF1_7, 0, none⟩) 256 256])) (qbm 9 rfl ((qag (cs := ([.int .i64 0, .slice (some ⟨bF1_7, 0, none⟩) 256 256] : List Value)) rfl Tryz.underlying50 Tryz.sizeOf68 Tryz.zeroValue68 (by kernel_rfl) (by decide) (by decide) ?_)))
  intro bF1_9 w1038 e1 e2
  have hA := (Mod.refl (fun _ => False) w1037).alloc e2
  refine ⟨fun _ hk => Keep.of_ext hk hz hA, ?_⟩
  have hE := hE.trans hA; have hF := hF.alloc (cs := #[.int .i64 0, .slice (some ⟨bF1_7, 0, none⟩) 256 256]) (t := 68) e1 e2; have hz := Nat.le_trans hz hA.size
  refine qbm 10 rfl ?_
  rotate_left
  refine (qas (kl := .i64) (kc := .i64) (l := 256) (c := 256) rfl Tryz.underlying62 Tryz.typeInfo5 rfl (by decide) (by decide) (by decide) (by decide) ?_)
  intro bF1_7 w1039 e1 e2
  have hA := (Mod.refl (fun _ => False) w1035).alloc e2
  refine ⟨fun _ hk => Keep.of_ext hk hz hA, ?_⟩
  have hE := hE.trans hA; have hF := hF.alloc (cs := (madeCells #[.int .u8 0] (256 * 1))) (t := 5) e1 e2; have hz := Nat.le_trans hz hA.size
  refine qbo 8 rfl (qbz (v := .agg #[.int .i64 0, .slice (some ⟨bF1_7, 0, none⟩) 256 256])) (qbq 6 9 rfl rfl ?_ ?_)
  refine (qag (cs := ([.int .i64 1, .slice (some ⟨bF1_4, 0, none⟩) 1 1] : List Value)) rfl Tryz.underlying45 Tryz.sizeOf67 Tryz.zeroValue67 (by kernel_rfl) (by decide) (by decide) ?_)
  intro bF1_6 w1040 e1 e2
  have hA := (Mod.refl (fun _ => False) w1039).alloc e2
  refine ⟨fun _ hk => Keep.of_ext hk hz hA, ?_⟩
  have hE := hE.trans hA; have hF := hF.alloc (cs := #[.int .i64 1, .slice (some ⟨bF1_4, 0, none⟩) 1 1]) (t := 67) e1 e2; have hz := Nat.le_trans hz hA.size
  refine qbm 9 rfl ((qag (cs := ([.int .i64 0, .slice (some ⟨bF1_7, 0, none⟩) 256 256] : List Value)) rfl Tryz.underlying50 Tryz.sizeOf68 Tryz.zeroValue68 (by kernel_rfl) (by decide) (by decide) ?_))
  intro bF1_9 w1041 e1 e2
  have hA := (Mod.refl (fun _ => False) w1040).alloc e2
  refine ⟨fun _ hk => Keep.of_ext hk hz hA, ?_⟩
  have hE := hE.trans hA; have hF := hF.alloc (cs := #[.int .i64 0, .slice (some ⟨bF1_7, 0, none⟩) 256 256]) (t := 68) e1 e2; have hz := Nat.le_trans hz hA.size
  refine qbm 10 rfl ?_
  rotate_left
  refine (qag (cs := ([.int .i64 0, .slice (some ⟨bF1_7, 0, none⟩) 256 256] : List Value)) rfl Tryz.underlying50 Tryz.sizeOf68 Tryz.zeroValue68 (by kernel_rfl) (by decide) (by decide) ?_)
  intro bF1_9 w1042 e1 e2
  have hA := (Mod.refl (fun _ => False) w1039).alloc e2
  refine ⟨fun _ hk => Keep.of_ext hk hz hA, ?_⟩
  have hE := hE.trans hA; have hF := hF.alloc (cs := #[.int .i64 0, .slice (some ⟨bF1_7, 0, none⟩) 256 256]) (t := 68) e1 e2; have hz := Nat.le_trans hz hA.size
  refine qbm 6 rfl ((qag (cs := ([.int .i64 1, .slice (some ⟨bF1_4, 0, none⟩) 1 1] : List Value)) rfl Tryz.underlying45 Tryz.sizeOf67 Tryz.zeroValue67 (by kernel_rfl) (by decide) (by decide) ?_))
  intro bF1_6 w1043 e1 e2
  have hA := (Mod.refl (fun _ => False) w1042).alloc e2
  refine ⟨fun _ hk => Keep.of_ext hk hz hA, ?_⟩
  have hE := hE.trans hA; have hF := hF.alloc (cs := #[.int .i64 1, .slice (some ⟨bF1_4, 0, none⟩) 1 1]) (t := 67) e1 e2; have hz := Nat.le_trans hz hA.size
  refine qbm 10 rfl ?_
  rotate_left
  refine (qas (kl := .i64) (kc := .i64) (l := 256) (c := 256) rfl Tryz.underlying62 Tryz.typeInfo5 rfl (by decide) (by decide) (by decide) (by decide) ?_)
  intro bF1_7 w1044 e1 e2
  have hA := (Mod.refl (fun _ => False) w7).alloc e2
  refine ⟨fun _ hk => Keep.of_ext hk hz hA, ?_⟩
  have hE := hE.trans hA; have hF := hF.alloc (cs := (madeCells #[.int .u8 0] (256 * 1))) (t := 5) e1 e2; have hz := Nat.le_trans hz hA.size
  refine qbo 8 rfl (qbz (v := .agg #[.int .i64 0, .slice (some ⟨bF1_7, 0, none⟩) 256 256])) (qbp 4 9 16 rfl rfl rfl ?_ ?_ ?_)
  refine (qag (cs := (([.int .i64 1, .int .u32 0] : List Value) ++ (List.replicate 32 (.int .u8 0 : Value)))) rfl Tryz.underlying65 Tryz.sizeOf46 Tryz.zeroValue46 (by kernel_rfl) (by decide) (by decide) ?_)
  intro bF1_4 w1045 e1 e2
  have hA := (Mod.refl (fun _ => False) w1044).alloc e2
  refine ⟨fun _ hk => Keep.of_ext hk hz hA, ?_⟩
  have hE := hE.trans hA; have hF := hF.alloc (cs := (([.int .i64 1, .int .u32 0] : List Value) ++ (List.replicate 32 (.int .u8 0 : Value))).toArray) (t := 46) e1 e2; have hz := Nat.le_trans hz hA.size
  refine qbo 5 rfl (qbz (v := .agg #[.int .i64 1, .slice (some ⟨bF1_4, 0, none⟩) 1 1])) (qbp 6 9 16 rfl rfl rfl ?_ ?_ ?_)
  refine (qag (cs := ([.int .i64 1, .slice (some ⟨bF1_4, 0, none⟩) 1 1] : List Value)) rfl Tryz.underlying45 Tryz.sizeOf67 Tryz.zeroValue67 (by kernel_rfl) (by decide) (by decide) ?_)
  intro bF1_6 w1046 e1 e2
  have hA := (Mod.refl (fun _ => False) w1045).alloc e2
  refine ⟨fun _ hk => Keep.of_ext hk hz hA, ?_⟩
  have hE := hE.trans hA; have hF := hF.alloc (cs := #[.int .i64 1, .slice (some ⟨bF1_4, 0, none⟩) 1 1]) (t := 67) e1 e2; have hz := Nat.le_trans hz hA.size
  refine qbq 9 16 rfl rfl ?_ ?_
  refine (qag (cs := ([.int .i64 0, .slice (some ⟨bF1_7, 0, none⟩) 256 256] : List Value)) rfl Tryz.underlying50 Tryz.sizeOf68 Tryz.zeroValue68 (by kernel_rfl) (by decide) (by decide) ?_)
  intro bF1_9 w1047 e1 e2
  have hA := (Mod.refl (fun _ => False) w1046).alloc e2
  refine ⟨fun _ hk => Keep.of_ext hk hz hA, ?_⟩
  have hE := hE.trans hA; have hF := hF.alloc (cs := #[.int .i64 0, .slice (some ⟨bF1_7, 0, none⟩) 256 256]) (t := 68) e1 e2; have hz := Nat.le_trans hz hA.size
  refine qbq 10 16 rfl rfl ?_ ?_
  rotate_left
  refine (qac rfl Tryz.zeroValue46 ?_)
  intro bF1_16 w1048 e1 e2
  have hA := (Mod.refl (fun _ => False) w1047).alloc e2
  refine ⟨fun _ hk => Keep.of_ext hk hz hA, ?_⟩
  have hE := hE.trans hA; have hF := hF.alloc (cs := (([.int .i64 0, .int .u32 0] : List Value) ++ (List.replicate 32 (.int .u8 0 : Value))).toArray) (t := 46) e1 e2; have hz := Nat.le_trans hz hA.size
  refine qbm 10 rfl ?_
  rotate_left
  refine (qac rfl Tryz.zeroValue46 ?_)
  intro bF1_16 w1049 e1 e2
  have hA := (Mod.refl (fun _ => False) w1046).alloc e2
  refine ⟨fun _ hk => Keep.of_ext hk hz hA, ?_⟩
  have hE := hE.trans hA; have hF := hF.alloc (cs := (([.int .i64 0, .int .u32 0] : List Value) ++ (List.replicate 32 (.int .u8 0 : Value))).toArray) (t := 46) e1 e2; have hz := Nat.le_trans hz hA.size
  refine qbm 9 rfl ((qag (cs := ([.int .i64 0, .slice (some ⟨bF1_7, 0, none⟩) 256 256] : List Value)) rfl Tryz.underlying50 Tryz.sizeOf68 Tryz.zeroValue68 (by kernel_rfl) (by decide) (by decide) ?_))
  intro bF1_9 w1050 e1 e2
  have hA := (Mod.refl (fun _ => False) w1049).alloc e2
  refine ⟨fun _ hk => Keep.of_ext hk hz hA, ?_⟩
  have hE := hE.trans hA; have hF := hF.alloc (cs := #[.int .i64 0, .slice (some ⟨bF1_7, 0, none⟩) 256 256]) (t := 68) e1 e2; have hz := Nat.le_trans hz hA.size
  refine qbm 10 rfl ?_
  rotate_left
  refine (qag (cs := ([.int .i64 0, .slice (some ⟨bF1_7, 0, none⟩) 256 256] : List Value)) rfl Tryz.underlying50 Tryz.sizeOf68 Tryz.zeroValue68 (by kernel_rfl) (by decide) (by decide) ?_)
  intro bF1_9 w1051 e1 e2
  have hA := (Mod.refl (fun _ => False) w1045).alloc e2
  refine ⟨fun _ hk => Keep.of_ext hk hz hA, ?_⟩
  have hE := hE.trans hA; have hF := hF.alloc (cs := #[.int .i64 0, .slice (some ⟨bF1_7, 0, none⟩) 256 256]) (t := 68) e1 e2; have hz := Nat.le_trans hz hA.size
  refine qbq 6 16 rfl rfl ?_ ?_
  refine (qag (cs := ([.int .i64 1, .slice (some ⟨bF1_4, 0, none⟩) 1 1] : List Value)) rfl Tryz.underlying45 Tryz.sizeOf67 Tryz.zeroValue67 (by kernel_rfl) (by decide) (by decide) ?_)
  intro bF1_6 w1052 e1 e2
  have hA := (Mod.refl (fun _ => False) w1051).alloc e2
  refine ⟨fun _ hk => Keep.of_ext hk hz hA, ?_⟩
  have hE := hE.trans hA; have hF := hF.alloc (cs := #[.int .i64 1, .slice (some ⟨bF1_4, 0, none⟩) 1 1]) (t := 67) e1 e2; have hz := Nat.le_trans hz hA.size
  refine qbq 10 16 rfl rfl ?_ ?_
  rotate_left
  refine (qac rfl Tryz.zeroValue46 ?_)
  intro bF1_16 w1053 e1 e2
  have hA := (Mod.refl (fun _ => False) w1052).alloc e2
  refine ⟨fun _ hk => Keep.of_ext hk hz hA, ?_⟩
  have hE := hE.trans hA; have hF := hF.alloc (cs := (([.int .i64 0, .int .u32 0] : List Value) ++ (List.replicate 32 (.int .u8 0 : Value))).toArray) (t := 46) e1 e2; have hz := Nat.le_trans hz hA.size
  refine qbm 10 rfl ?_
  rotate_left
  refine (qac rfl Tryz.zeroValue46 ?_)
  intro bF1_16 w1054 e1 e2
  have hA := (Mod.refl (fun _ => False) w1051).alloc e2
  refine ⟨fun _ hk => Keep.of_ext hk hz hA, ?_⟩
  have hE := hE.trans hA; have hF := hF.alloc (cs := (([.int .i64 0, .int .u32 0] : List Value) ++ (List.replicate 32 (.int .u8 0 : Value))).toArray) (t := 46) e1 e2; have hz := Nat.le_trans hz hA.size
  refine qbm 6 rfl ((qag (cs := ([.int .i64 1, .slice (some ⟨bF1_4, 0, none⟩) 1 1] : List Value)) rfl Tryz.underlying45 Tryz.sizeOf67 Tryz.zeroValue67 (by kernel_rfl) (by decide) (by decide) ?_))
  intro bF1_6 w1055 e1 e2
  have hA := (Mod.refl (fun _ => False) w1054).alloc e2
  refine ⟨fun _ hk => Keep.of_ext hk hz hA, ?_⟩
  have hE := hE.trans hA; have hF := hF.alloc (cs := #[.int .i64 1, .slice (some ⟨bF1_4, 0, none⟩) 1 1]) (t := 67) e1 e2; have hz := Nat.le_trans hz hA.size
  refine qbm 10 rfl ?_
  rotate_left
  refine (qac rfl Tryz.zeroValue46 ?_)
  intro bF1_16 w1056 e1 e2
  have hA := (Mod.refl (fun _ => False) w1045).alloc e2
  refine ⟨fun _ hk => Keep.of_ext hk hz hA, ?_⟩
  have hE := hE.trans hA; have hF := hF.alloc (cs := (([.int .i64 0, .int .u32 0] : List Value) ++ (List.replicate 32 (.int .u8 0 : Value))).toArray) (t := 46) e1 e2; have hz := Nat.le_trans hz hA.size
  refine qbq 6 9 rfl rfl ?_ ?_
  refine (qag (cs := ([.int .i64 1, .slice (some ⟨bF1_4, 0, none⟩) 1 1] : List Value)) rfl Tryz.underlying45 Tryz.sizeOf67 Tryz.zeroValue67 (by kernel_rfl) (by decide) (by decide) ?_)
  intro bF1_6 w1057 e1 e2
  have hA := (Mod.refl (fun _ => False) w1056).alloc e2
  refine ⟨fun _ hk => Keep.of_ext hk hz hA, ?_⟩
  have hE := hE.trans hA; have hF := hF.alloc (cs := #[.int .i64 1, .slice (some ⟨bF1_4, 0, none⟩) 1 1]) (t := 67) e1 e2; have hz := Nat.le_trans hz hA.size
  refine qbm 9 rfl ((qag (cs := ([.int .i64 0, .slice (some ⟨bF1_7, 0, none⟩) 256 256] : List Value)) rfl Tryz.underlying50 Tryz.sizeOf68 Tryz.zeroValue68 (by kernel_rfl) (by decide) (by decide) ?_))
  intro bF1_9 w1058 e1 e2
  have hA := (Mod.refl (fun _ => False) w1057).alloc e2
  refine ⟨fun _ hk => Keep.of_ext hk hz hA, ?_⟩
  have hE := hE.trans hA; have hF := hF.alloc (cs := #[.int .i64 0, .slice (some ⟨bF1_7, 0, none⟩) 256 256]) (t := 68) e1 e2; have hz := Nat.le_trans hz hA.size
  refine qbm 10 rfl ?_
  rotate_left
  refine (qag (cs := ([.int .i64 0, .slice (some ⟨bF1_7, 0, none⟩) 256 256] : List Value)) rfl Tryz.underlying50 Tryz.sizeOf68 Tryz.zeroValue68 (by kernel_rfl) (by decide) (by decide) ?_)
  intro bF1_9 w1059 e1 e2
  have hA := (Mod.refl (fun _ => False) w1056).alloc e2
  refine ⟨fun _ hk => Keep.of_ext hk hz hA, ?_⟩
  have hE := hE.trans hA; have hF := hF.alloc (cs := #[.int .i64 0, .slice (some ⟨bF1_7, 0, none⟩) 256 256]) (t := 68) e1 e2; have hz := Nat.le_trans hz hA.size
  refine qbm 6 rfl ((qag (cs := ([.int .i64 1, .slice (some ⟨bF1_4, 0, none⟩) 1 1] : List Value)) rfl Tryz.underlying45 Tryz.sizeOf67 Tryz.zeroValue67 (by kernel_rfl) (by decide) (by decide) ?_))
  intro bF1_6 w1060 e1 e2
  have hA := (Mod.refl (fun _ => False) w1059).alloc e2
  refine ⟨fun _ hk => Keep.of_ext hk hz hA, ?_⟩
  have hE := hE.trans hA; have hF := hF.alloc (cs := #[.int .i64 1, .slice (some ⟨bF1_4, 0, none⟩) 1 1]) (t := 67) e1 e2; have hz := Nat.le_trans hz hA.size
  refine qbm 10 rfl ?_
  rotate_left
  refine (qag (cs := ([.int .i64 0, .slice (some ⟨bF1_7, 0, none⟩) 256 256] : List Value)) rfl Tryz.underlying50 Tryz.sizeOf68 Tryz.zeroValue68 (by kernel_rfl) (by decide) (by decide) ?_)
  intro bF1_9 w1061 e1 e2
  have hA := (Mod.refl (fun _ => False) w1044).alloc e2
  refine ⟨fun _ hk => Keep.of_ext hk hz hA, ?_⟩
  have hE := hE.trans hA; have hF := hF.alloc (cs := #[.int .i64 0, .slice (some ⟨bF1_7, 0, none⟩) 256 256]) (t := 68) e1 e2; have hz := Nat.le_trans hz hA.size
  refine qbq 4 16 rfl rfl ?_ ?_
  refine (qag (cs := (([.int .i64 1, .int .u32 0] : List Value) ++ (List.replicate 32 (.int .u8 0 : Value)))) rfl Tryz.underlying65 Tryz.sizeOf46 Tryz.zeroValue46 (by kernel_rfl) (by decide) (by decide) ?_)
  intro bF1_4 w1062 e1 e2
  have hA := (Mod.refl (fun _ => False) w1061).alloc e2
  refine ⟨fun _ hk => Keep.of_ext hk hz hA, ?_⟩
  have hE := hE.trans hA; have hF := hF.alloc (cs := (([.int .i64 1, .int .u32 0] : List Value) ++ (List.replicate 32 (.int .u8 0 : Value))).toArray) (t := 46) e1 e2; have hz := Nat.le_trans hz hA.size
  refine qbo 5 rfl (qbz (v := .agg #[.int .i64 1, .slice (some ⟨bF1_4, 0, none⟩) 1 1])) (qbq 6 16 rfl rfl ?_ ?_)
  refine (qag (cs := ([.int .i64 1, .slice (some ⟨bF1_4, 0, none⟩) 1 1] : List Value)) rfl Tryz.underlying45 Tryz.sizeOf67 Tryz.zeroValue67 (by kernel_rfl) (by decide) (by decide) ?_)
  intro bF1_6 w1063 e1 e2
  have hA := (Mod.refl (fun _ => False) w1062).alloc e2
  refine ⟨fun _ hk => Keep.of_ext hk hz hA, ?_⟩
  have hE := hE.trans hA; have hF := hF.alloc (cs := #[.int .i64 1, .slice (some ⟨bF1_4, 0, none⟩) 1 1]) (t := 67) e1 e2; have hz := Nat.le_trans hz hA.size
  refine qbq 10 16 rfl rfl ?_ ?_
  rotate_left
  refine (qac rfl Tryz.zeroValue46 ?_)
  intro bF1_16 w1064 e1 e2
  have hA := (Mod.refl (fun _ => False) w1063).alloc e2
  refine ⟨fun _ hk => Keep.of_ext hk hz hA, ?_⟩
  have hE := hE.trans hA; have hF := hF.alloc (cs := (([.int .i64 0, .int .u32 0] : List Value) ++ (List.replicate 32 (.int .u8 0 : Value))).toArray) (t := 46) e1 e2; have hz := Nat.le_trans hz hA.size
  refine qbm 10 rfl ?_
  rotate_left
  refine (qac rfl Tryz.zeroValue46 ?_)
  intro bF1_16 w1065 e1 e2
  have hA := (Mod.refl (fun _ => False) w1062).alloc e2
  refine ⟨fun _ hk => Keep.of_ext hk hz hA, ?_⟩
  have hE := hE.trans hA; have hF := hF.alloc (cs := (([.int .i64 0, .int .u32 0] : List Value) ++ (List.replicate 32 (.int .u8 0 : Value))).toArray) (t := 46) e1 e2; have hz := Nat.le_trans hz hA.size
  refine qbm 6 rfl ((qag (cs := ([.int .i64 1, .slice (some ⟨bF1_4, 0, none⟩) 1 1] : List Value)) rfl Tryz.underlying45 Tryz.sizeOf67 Tryz.zeroValue67 (by kernel_rfl) (by decide) (by decide) ?_))
  intro bF1_6 w1066 e1 e2
  have hA := (Mod.refl (fun _ => False) w1065).alloc e2
  refine ⟨fun _ hk => Keep.of_ext hk hz hA, ?_⟩
  have hE := hE.trans hA; have hF := hF.alloc (cs := #[.int .i64 1, .slice (some ⟨bF1_4, 0, none⟩) 1 1]) (t := 67) e1 e2; have hz := Nat.le_trans hz hA.size
  refine qbm 10 rfl ?_
  rotate_left
  refine (qac rfl Tryz.zeroValue46 ?_)
  intro bF1_16 w1067 e1 e2
  have hA := (Mod.refl (fun _ => False) w1061).alloc e2
  refine ⟨fun _ hk => Keep.of_ext hk hz hA, ?_⟩
  have hE := hE.trans hA; have hF := hF.alloc (cs := (([.int .i64 0, .int .u32 0] : List Value) ++ (List.replicate 32 (.int .u8 0 : Value))).toArray) (t := 46) e1 e2; have hz := Nat.le_trans hz hA.size
  refine qbm 4 rfl ((qag (cs := (([.int .i64 1, .int .u32 0] : List Value) ++ (List.replicate 32 (.int .u8 0 : Value)))) rfl Tryz.underlying65 Tryz.sizeOf46 Tryz.zeroValue46 (by kernel_rfl) (by decide) (by decide) ?_))
  intro bF1_4 w1068 e1 e2
  have hA := (Mod.refl (fun _ => False) w1067).alloc e2
  refine ⟨fun _ hk => Keep.of_ext hk hz hA, ?_⟩
  have hE := hE.trans hA; have hF := hF.alloc (cs := (([.int .i64 1, .int .u32 0] : List Value) ++ (List.replicate 32 (.int .u8 0 : Value))).toArray) (t := 46) e1 e2; have hz := Nat.le_trans hz hA.size
  refine qbo 5 rfl (qbz (v := .agg #[.int .i64 1, .slice (some ⟨bF1_4, 0, none⟩) 1 1])) (qbm 6 rfl ((qag (cs := ([.int .i64 1, .slice (some ⟨bF1_4, 0, none⟩) 1 1] : List Value)) rfl Tryz.underlying45 Tryz.sizeOf67 Tryz.zeroValue67 (by kernel_rfl) (by decide) (by decide) ?_)))
  intro bF1_6 w1069 e1 e2
  have hA := (Mod.refl (fun _ => False) w1068).alloc e2
  refine ⟨fun _ hk => Keep.of_ext hk hz hA, ?_⟩
  have hE := hE.trans hA; have hF := hF.alloc (cs := #[.int .i64 1, .slice (some ⟨bF1_4, 0, none⟩) 1 1]) (t := 67) e1 e2; have hz := Nat.le_trans hz hA.size
  refine qbm 10 rfl ?_
  rotate_left
  refine (qac rfl Tryz.zeroValue46 ?_)
  intro bF1_16 w1070 e1 e2
  have hA := (Mod.refl (fun _ => False) w1044).alloc e2
  refine ⟨fun _ hk => Keep.of_ext hk hz hA, ?_⟩
  have hE := hE.trans hA; have hF := hF.alloc (cs := (([.int .i64 0, .int .u32 0] : List Value) ++ (List.replicate 32 (.int .u8 0 : Value))).toArray) (t := 46) e1 e2; have hz := Nat.le_trans hz hA.size
  refine qbq 4 9 rfl rfl ?_ ?_
  refine (qag (cs := (([.int .i64 1, .int .u32 0] : List Value) ++ (List.replicate 32 (.int .u8 0 : Value)))) rfl Tryz.underlying65 Tryz.sizeOf46 Tryz.zeroValue46 (by kernel_rfl) (by decide) (by decide) ?_)
  intro bF1_4 w1071 e1 e2
  have hA := (Mod.refl (fun _ => False) w1070).alloc e2
  refine ⟨fun _ hk => Keep.of_ext hk hz hA, ?_⟩
  have hE := hE.trans hA; have hF := hF.alloc (cs := (([.int .i64 1, .int .u32 0] : List Value) ++ (List.replicate 32 (.int .u8 0 : Value))).toArray) (t := 46) e1 e2; have hz := Nat.le_trans hz hA.size
  refine qbo 5 rfl (qbz (v := .agg #[.int .i64 1, .slice (some ⟨bF1_4, 0, none⟩) 1 1])) (qbq 6 9 rfl rfl ?_ ?_)
  refine (qag (cs := ([.int .i64 1, .slice (some ⟨bF1_4, 0, none⟩) 1 1] : List Value)) rfl Tryz.underlying45 Tryz.sizeOf67 Tryz.zeroValue67 (by kernel_rfl) (by decide) (by decide) ?_)
  intro bF1_6 w1072 e1 e2
  have hA := (Mod.refl (fun _ => False) w1071).alloc e2
  refine ⟨fun _ hk => Keep.of_ext hk hz hA, ?_⟩
  have hE := hE.trans hA; have hF := hF.alloc (cs := #[.int .i64 1, .slice (some ⟨bF1_4, 0, none⟩) 1 1]) (t := 67) e1 e2; have hz := Nat.le_trans hz hA.size
  refine qbm 9 rfl ((qag (cs := ([.int .i64 0, .slice (some ⟨bF1_7, 0, none⟩) 256 256] : List Value)) rfl Tryz.underlying50 Tryz.sizeOf68 Tryz.zeroValue68 (by kernel_rfl) (by decide) (by decide) ?_))
  intro bF1_9 w1073 e1 e2
  have hA := (Mod.refl (fun _ => False) w1072).alloc e2
  refine ⟨fun _ hk => Keep.of_ext hk hz hA, ?_⟩
  have hE := hE.trans hA; have hF := hF.alloc (cs := #[.int .i64 0, .slice (some ⟨bF1_7, 0, none⟩) 256 256]) (t := 68) e1 e2; have hz := Nat.le_trans hz hA.size
  refine qbm 10 rfl ?_
  rotate_left
  refine (qag (cs := ([.int .i64 0, .slice (some ⟨bF1_7, 0, none⟩) 256 256] : List Value)) rfl Tryz.underlying50 Tryz.sizeOf68 Tryz.zeroValue68 (by kernel_rfl) (by decide) (by decide) ?_)
  intro bF1_9 w1074 e1 e2
  have hA := (Mod.refl (fun _ => False) w1071).alloc e2
  refine ⟨fun _ hk => Keep.of_ext hk hz hA, ?_⟩
  have hE := hE.trans hA; have hF := hF.alloc (cs := #[.int .i64 0, .slice (some ⟨bF1_7, 0, none⟩) 256 256]) (t := 68) e1 e2; have hz := Nat.le_trans hz hA.size
  refine qbm 6 rfl ((qag (cs := ([.int .i64 1, .slice (some ⟨bF1_4, 0, none⟩) 1 1] : List Value)) rfl Tryz.underlying45 Tryz.sizeOf67 Tryz.zeroValue67 (by kernel_rfl) (by decide) (by decide) ?_))
  intro bF1_6 w1075 e1 e2
  have hA := (Mod.refl (fun _ => False) w1074).alloc e2
  refine ⟨fun _ hk => Keep.of_ext hk hz hA, ?_⟩
  have hE := hE.trans hA; have hF := hF.alloc (cs := #[.int .i64 1, .slice (some ⟨bF1_4, 0, none⟩) 1 1]) (t := 67) e1 e2; have hz := Nat.le_trans hz hA.size
  refine qbm 10 rfl ?_
  rotate_left
  refine (qag (cs := ([.int .i64 0, .slice (some ⟨bF1_7, 0, none⟩) 256 256] : List Value)) rfl Tryz.underlying50 Tryz.sizeOf68 Tryz.zeroValue68 (by kernel_rfl) (by decide) (by decide) ?_)
  intro bF1_9 w1076 e1 e2
  have hA := (Mod.refl (fun _ => False) w1070).alloc e2
  refine ⟨fun _ hk => Keep.of_ext hk hz hA, ?_⟩
  have hE := hE.trans hA; have hF := hF.alloc (cs := #[.int .i64 0, .slice (some ⟨bF1_7, 0, none⟩) 256 256]) (t := 68) e1 e2; have hz := Nat.le_trans hz hA.size
  refine qbm 4 rfl ((qag (cs := (([.int .i64 1, .int .u32 0] : List Value) ++ (List.replicate 32 (.int .u8 0 : Value)))) rfl Tryz.underlying65 Tryz.sizeOf46 Tryz.zeroValue46 (by kernel_rfl) (by decide) (by decide) ?_))
  intro bF1_4 w1077 e1 e2
  have hA := (Mod.refl (fun _ => False) w1076).alloc e2
  refine ⟨fun _ hk => Keep.of_ext hk hz hA, ?_⟩
  have hE := hE.trans hA; have hF := hF.alloc (cs := (([.int .i64 1, .int .u32 0] : List Value) ++ (List.replicate 32 (.int .u8 0 : Value))).toArray) (t := 46) e1 e2; have hz := Nat.le_trans hz hA.size
  refine qbo 5 rfl (qbz (v := .agg #[.int .i64 1, .slice (some ⟨bF1_4, 0, none⟩) 1 1])) (qbm 6 rfl ((qag (cs := ([.int .i64 1, .slice (some ⟨bF1_4, 0, none⟩) 1 1] : List Value)) rfl Tryz.underlying45 Tryz.sizeOf67 Tryz.zeroValue67 (by kernel_rfl) (by decide) (by decide) ?_)))
  intro bF1_6 w1078 e1 e2
  have hA := (Mod.refl (fun _ => False) w1077).alloc e2
  refine ⟨fun _ hk => Keep.of_ext hk hz hA, ?_⟩
  have hE := hE.trans hA; have hF := hF.alloc (cs := #[.int .i64 1, .slice (some ⟨bF1_4, 0, none⟩) 1 1]) (t := 67) e1 e2; have hz := Nat.le_trans hz hA.size
  refine qbm 10 rfl ?_
  rotate_left
  refine (qac rfl Tryz.zeroValue46 ?_)
  intro bF1_16 w1079 e1 e2
  have hA := (Mod.refl (fun _ => False) w7).alloc e2
  refine ⟨fun _ hk => Keep.of_ext hk hz hA, ?_⟩
  have hE := hE.trans hA; have hF := hF.alloc (cs := (([.int .i64 0, .int .u32 0] : List Value) ++ (List.replicate 32 (.int .u8 0 : Value))).toArray) (t := 46) e1 e2; have hz := Nat.le_trans hz hA.size
  refine qbq 4 7 rfl rfl ?_ ?_
  refine (qag (cs := (([.int .i64 1, .int .u32 0] : List Value) ++ (List.replicate 32 (.int .u8 0 : Value)))) rfl Tryz.underlying65 Tryz.sizeOf46 Tryz.zeroValue46 (by kernel_rfl) (by decide) (by decide) ?_)
  intro bF1_4 w1080 e1 e2
  have hA := (Mod.refl (fun _ => False) w1079).alloc e2
  refine ⟨fun _ hk => Keep.of_ext hk hz hA, ?_⟩
  have hE := hE.trans hA; have hF := hF.alloc (cs := (([.int .i64 1, .int .u32 0] : List Value) ++ (List.replicate 32 (.int .u8 0 : Value))).toArray) (t := 46) e1 e2; have hz := Nat.le_trans hz hA.size
  refine qbo 5 rfl (qbz (v := .agg #[.int .i64 1, .slice (some ⟨bF1_4, 0, none⟩) 1 1])) (qbq 6 7 rfl rfl ?_ ?_)
  refine (qag (cs := ([.int .i64 1, .slice (some ⟨bF1_4, 0, none⟩) 1 1] : List Value)) rfl Tryz.underlying45 Tryz.sizeOf67 Tryz.zeroValue67 (by kernel_rfl) (by decide) (by decide) ?_)
  intro bF1_6 w1081 e1 e2
  have hA := (Mod.refl (fun _ => False) w1080).alloc e2
  refine ⟨fun _ hk => Keep.of_ext hk hz hA, ?_⟩
  have hE := hE.trans hA; have hF := hF.alloc (cs := #[.int .i64 1, .slice (some ⟨bF1_4, 0, none⟩) 1 1]) (t := 67) e1 e2; have hz := Nat.le_trans hz hA.size
  refine qbm 7 rfl ((qas (kl := .i64) (kc := .i64) (l := 256) (c := 256) rfl Tryz.underlying62 Tryz.typeInfo5 rfl (by decide) (by decide) (by decide) (by decide) ?_))
  intro bF1_7 w1082 e1 e2
  have hA := (Mod.refl (fun _ => False) w1081).alloc e2
  refine ⟨fun _ hk => Keep.of_ext hk hz hA, ?_⟩
  have hE := hE.trans hA; have hF := hF.alloc (cs := (madeCells #[.int .u8 0] (256 * 1))) (t := 5) e1 e2; have hz := Nat.le_trans hz hA.size
  refine qbo 8 rfl (qbz (v := .agg #[.int .i64 0, .slice (some ⟨bF1_7, 0, none⟩) 256 256])) (qbm 9 rfl ((qag (cs := ([.int .i64 0, .slice (some ⟨bF1_7, 0, none⟩) 256 256] : List Value)) rfl Tryz.underlying50 Tryz.sizeOf68 Tryz.zeroValue68 (by kernel_rfl) (by decide) (by decide) ?_)))
  intro bF1_9 w1083 e1 e2
  have hA := (Mod.refl (fun _ => False) w1082).alloc e2
  refine ⟨fun _ hk => Keep.of_ext hk hz hA, ?_⟩
  have hE := hE.trans hA; have hF := hF.alloc (cs := #[.int .i64 0, .slice (some ⟨bF1_7, 0, none⟩) 256 256]) (t := 68) e1 e2; have hz := Nat.le_trans hz hA.size
  refine qbm 10 rfl ?_
  rotate_left
  refine (qas (kl := .i64) (kc := .i64) (l := 256) (c := 256) rfl Tryz.underlying62 Tryz.typeInfo5 rfl (by decide) (by decide) (by decide) (by decide) ?_)
  intro bF1_7 w1084 e1 e2
  have hA := (Mod.refl (fun _ => False) w1080).alloc e2
  refine ⟨fun _ hk => Keep.of_ext hk hz hA, ?_⟩
  have hE := hE.trans hA; have hF := hF.alloc (cs := (madeCells #[.int .u8 0] (256 * 1))) (t := 5) e1 e2; have hz := Nat.le_trans hz hA.size
  refine qbo 8 rfl (qbz (v := .agg #[.int .i64 0, .slice (some ⟨bF1_7, 0, none⟩) 256 256])) (qbq 6 9 rfl rfl ?_ ?_)
  refine (qag (cs := ([.int .i64 1, .slice (some ⟨bF1_4, 0, none⟩) 1 1] : List Value)) rfl Tryz.underlying45 Tryz.sizeOf67 Tryz.zeroValue67 (by kernel_rfl) (by decide) (by decide) ?_)
  intro bF1_6 w1085 e1 e2
  have hA := (Mod.refl (fun _ => False) w1084).alloc e2
  refine ⟨fun _ hk => Keep.of_ext hk hz hA, ?_⟩
  have hE := hE.trans hA; have hF := hF.alloc (cs := #[.int .i64 1, .slice (some ⟨bF1_4, 0, none⟩) 1 1]) (t := 67) e1 e2; have hz := Nat.le_trans hz hA.size
  refine qbm 9 rfl ((qag (cs := ([.int .i64 0, .slice (some ⟨bF1_7, 0, none⟩) 256 256] : List Value)) rfl Tryz.underlying50 Tryz.sizeOf68 Tryz.zeroValue68 (by kernel_rfl) (by decide) (by decide) ?_))
  intro bF1_9 w1086 e1 e2
  have hA := (Mod.refl (fun _ => False) w1085).alloc e2
  refine ⟨fun _ hk => Keep.of_ext hk hz hA, ?_⟩
  have hE := hE.trans hA; have hF := hF.alloc (cs := #[.int .i64 0, .slice (some ⟨bF1_7, 0, none⟩) 256 256]) (t := 68) e1 e2; have hz := Nat.le_trans hz hA.size
  refine qbm 10 rfl ?_
  rotate_left
  refine (qag (cs := ([.int .i64 0, .slice (some ⟨bF1_7, 0, none⟩) 256 256] : List Value)) rfl Tryz.underlying50 Tryz.sizeOf68 Tryz.zeroValue68 (by kernel_rfl) (by decide) (by decide) ?_)
  intro bF1_9 w1087 e1 e2
  have hA := (Mod.refl (fun _ => False) w1084).alloc e2
  refine ⟨fun _ hk => Keep.of_ext hk hz hA, ?_⟩
  have hE := hE.trans hA; have hF := hF.alloc (cs := #[.int .i64 0, .slice (some ⟨bF1_7, 0, none⟩) 256 256]) (t := 68) e1 e2; have hz := Nat.le_trans hz hA.size
  refine qbm 6 rfl ((qag (cs := ([.int .i64 1, .slice (some ⟨bF1_4, 0, none⟩) 1 1] : List Value)) rfl Tryz.underlying45 Tryz.sizeOf67 Tryz.zeroValue67 (by kernel_rfl) (by decide) (by decide) ?_))
  intro bF1_6 w1088 e1 e2
  have hA := (Mod.refl (fun _ => False) w1087).alloc e2
  refine ⟨fun _ hk => Keep.of_ext hk hz hA, ?_⟩
  have hE := hE.trans hA; have hF := hF.alloc (cs := #[.int .i64 1, .slice (some ⟨bF1_4, 0, none⟩) 1 1]) (t := 67) e1 e2; have hz := Nat.le_trans hz hA.size
  refine qbm 10 rfl ?_
  rotate_left
  refine (qas (kl := .i64) (kc := .i64) (l := 256) (c := 256) rfl Tryz.underlying62 Tryz.typeInfo5 rfl (by decide) (by decide) (by decide) (by decide) ?_)
  intro bF1_7 w1089 e1 e2
  have hA := (Mod.refl (fun _ => False) w1079).alloc e2
  refine ⟨fun _ hk => Keep.of_ext hk hz hA, ?_⟩
  have hE := hE.trans hA; have hF := hF.alloc (cs := (madeCells #[.int .u8 0] (256 * 1))) (t := 5) e1 e2; have hz := Nat.le_trans hz hA.size
  refine qbo 8 rfl (qbz (v := .agg #[.int .i64 0, .slice (some ⟨bF1_7, 0, none⟩) 256 256])) (qbq 4 9 rfl rfl ?_ ?_)
  refine (qag (cs := (([.int .i64 1, .int .u32 0] : List Value) ++ (List.replicate 32 (.int .u8 0 : Value)))) rfl Tryz.underlying65 Tryz.sizeOf46 Tryz.zeroValue46 (by kernel_rfl) (by decide) (by decide) ?_)
  intro bF1_4 w1090 e1 e2
  have hA := (Mod.refl (fun _ => False) w1089).alloc e2
  refine ⟨fun _ hk => Keep.of_ext hk hz hA, ?_⟩
  have hE := hE.trans hA; have hF := hF.alloc (cs := (([.int .i64 1, .int .u32 0] : List Value) ++ (List.replicate 32 (.int .u8 0 : Value))).toArray) (t := 46) e1 e2; have hz := Nat.le_trans hz hA.size
  refine qbo 5 rfl (qbz (v := .agg #[.int .i64 1, .slice (some ⟨bF1_4, 0, none⟩) 1 1])) (qbq 6 9 rfl rfl ?_ ?_)
  refine (qag (cs := ([.int .i64 1, .slice (some ⟨bF1_4, 0, none⟩) 1 1] : List Value)) rfl Tryz.underlying45 Tryz.sizeOf67 Tryz.zeroValue67 (by kernel_rfl) (by decide) (by decide) ?_)
  intro bF1_6 w1091 e1 e2
  have hA := (Mod.refl (fun _ => False) w1090).alloc e2
  refine ⟨fun _ hk => Keep.of_ext hk hz hA, ?_⟩
  have hE := hE.trans hA; have hF := hF.alloc (cs := #[.int .i64 1, .slice (some ⟨bF1_4, 0, none⟩) 1 1]) (t := 67) e1 e2; have hz := Nat.le_trans hz hA.size
  refine qbm 9 rfl ((qag (cs := ([.int .i64 0, .slice (some ⟨bF1_7, 0, none⟩) 256 256] : List Value)) rfl Tryz.underlying50 Tryz.sizeOf68 Tryz.zeroValue68 (by kernel_rfl) (by decide) (by decide) ?_))
  intro bF1_9 w1092 e1 e2
  have hA := (Mod.refl (fun _ => False) w1091).alloc e2
  refine ⟨fun _ hk => Keep.of_ext hk hz hA, ?_⟩
  have hE := hE.trans hA; have hF := hF.alloc (cs := #[.int .i64 0, .slice (some ⟨bF1_7, 0, none⟩) 256 256]) (t := 68) e1 e2; have hz := Nat.le_trans hz hA.size
  refine qbm 10 rfl ?_
  rotate_left
  refine (qag (cs := ([.int .i64 0, .slice (some ⟨bF1_7, 0, none⟩) 256 256] : List Value)) rfl Tryz.underlying50 Tryz.sizeOf68 Tryz.zeroValue68 (by kernel_rfl) (by decide) (by decide) ?_)
  intro bF1_9 w1093 e1 e2
  have hA := (Mod.refl (fun _ => False) w1090).alloc e2
  refine ⟨fun _ hk => Keep.of_ext hk hz hA, ?_⟩
  have hE := hE.trans hA; have hF := hF.alloc (cs := #[.int .i64 0, .slice (some ⟨bF1_7, 0, none⟩) 256 256]) (t := 68) e1 e2; have hz := Nat.le_trans hz hA.size
  refine qbm 6 rfl ((qag (cs := ([.int .i64 1, .slice (some ⟨bF1_4, 0, none⟩) 1 1] : List Value)) rfl Tryz.underlying45 Tryz.sizeOf67 Tryz.zeroValue67 (by kernel_rfl) (by decide) (by decide) ?_))
  intro bF1_6 w1094 e1 e2
  have hA := (Mod.refl (fun _ => False) w1093).alloc e2
  refine ⟨fun _ hk => Keep.of_ext hk hz hA, ?_⟩
  have hE := hE.trans hA; have hF := hF.alloc (cs := #[.int .i64 1, .slice (some ⟨bF1_4, 0, none⟩) 1 1]) (t := 67) e1 e2; have hz := Nat.le_trans hz hA.size
  refine qbm 10 rfl ?_
  rotate_left
  refine (qag (cs := ([.int .i64 0, .slice (some ⟨bF1_7, 0, none⟩) 256 256] : List Value)) rfl Tryz.underlying50 Tryz.sizeOf68 Tryz.zeroValue68 (by kernel_rfl) (by decide) (by decide) ?_)
  intro bF1_9 w1095 e1 e2
  have hA := (Mod.refl (fun _ => False) w1089).alloc e2
  refine ⟨fun _ hk => Keep.of_ext hk hz hA, ?_⟩
  have hE := hE.trans hA; have hF := hF.alloc (cs := #[.int .i64 0, .slice (some ⟨bF1_7, 0, none⟩) 256 256]) (t := 68) e1 e2; have hz := Nat.le_trans hz hA.size
  refine qbm 4 rfl ((qag (cs := (([.int .i64 1, .int .u32 0] : List Value) ++ (List.replicate 32 (.int .u8 0 : Value)))) rfl Tryz.underlying65 Tryz.sizeOf46 Tryz.zeroValue46 (by kernel_rfl) (by decide) (by decide) ?_))
  intro bF1_4 w1096 e1 e2
  have hA := (Mod.refl (fun _ => False) w1095).alloc e2
  refine ⟨fun _ hk => Keep.of_ext hk hz hA, ?_⟩
  have hE := hE.trans hA; have hF := hF.alloc (cs := (([.int .i64 1, .int .u32 0] : List Value) ++ (List.replicate 32 (.int .u8 0 : Value))).toArray) (t := 46) e1 e2; have hz := Nat.le_trans hz hA.size
  refine qbo 5 rfl (qbz (v := .agg #[.int .i64 1, .slice (some ⟨bF1_4, 0, none⟩) 1 1])) (qbm 6 rfl ((qag (cs := ([.int .i64 1, .slice (some ⟨bF1_4, 0, none⟩) 1 1] : List Value)) rfl Tryz.underlying45 Tryz.sizeOf67 Tryz.zeroValue67 (by kernel_rfl) (by decide) (by decide) ?_)))
  intro bF1_6 w1097 e1 e2
  have hA := (Mod.refl (fun _ => False) w1096).alloc e2
  refine ⟨fun _ hk => Keep.of_ext hk hz hA, ?_⟩
  have hE := hE.trans hA; have hF := hF.alloc (cs := #[.int .i64 1, .slice (some ⟨bF1_4, 0, none⟩) 1 1]) (t := 67) e1 e2; have hz := Nat.le_trans hz hA.size
  refine qbm 10 rfl ?_
  rotate_left
  all_goals
   first
   | replace h := h bF1_4 bF1_6 bF1_7 bF1_9 _ hE (hF.sub (by simp [Value.cells]))
     refine (qai (args := #[.pointer none, .agg (List.replicate 32 (.int .u8 0 : Value)).toArray, .int .u32 2, .agg #[.slice A8 n8 c8], .agg (([.int .i64 0, .int .u32 0] : List Value) ++ (List.replicate 32 (.int .u8 0 : Value))).toArray, .slice (some ⟨bF1_6, 0, none⟩) 1 1, .slice (some ⟨bF1_9, 0, none⟩) 1 1]) rfl Tryz.call9 (Ret.mono h ?_))
     clear h; rintro _ wz1 ⟨A9, n9, c9, A10, n10, c10, x8, x9, d1, x10, rfl, hl0, hkf, h⟩
     have hE : Ext wz1 wz1 := Mod.refl _ _; have hF := hF.call hkf; have hz := Nat.le_trans hz hkf.1
     refine ⟨fun hh => absurd hh (by decide), ?_⟩
     replace h := h bF1_16 _ hE (hF.sub (by simp [Value.cells]))
     refine qbo 11 rfl (qbz (v := .tuple #[.slice A9 n9 c9, .slice A10 n10 c10, .agg (([.int .i64 x8, .int .u32 x9] : List Value) ++ d1).toArray, .int .i64 x10])) (qbo 12 rfl (qbz (v := .slice A9 n9 c9)) (qbo 13 rfl (qbz (v := .slice A10 n10 c10)) (qbo 14 rfl (qbz (v := .agg (([.int .i64 x8, .int .u32 x9] : List Value) ++ d1).toArray)) (qbo 15 rfl (qbz (v := .int .i64 x10)) (qbo 17 rfl (qbz (v := .slice A9 n9 c9)) (qbo 18 rfl (qbz (v := .slice A10 n10 c10)) ?_))))))
     obtain ⟨hl, h1, hw, h⟩ := h
     refine qbm 19 rfl (qbd (cs := (([.int .i64 x8, .int .u32 x9] : List Value) ++ d1)) rfl Tryz.sizeOf46 hl h1 hw ?_)
     intro w1012 e1; replace h := h w1012 e1
     refine ⟨fun hh => absurd hh (by decide), ?_⟩
     refine qbo 20 rfl (qbz (v := .int .i64 x10)) (qbk (qz ?_))
     exact ⟨(A9, n9, c9, A10, n10, c10, (some ⟨bF1_16, 0, none⟩), x10), h, qaa⟩
   | replace h := h bF1_4 bF1_6 bF1_7 bF1_9 _ hE (hF.sub (by simp [Value.cells]))
     refine (qai (args := #[.pointer none, .agg (List.replicate 32 (.int .u8 0 : Value)).toArray, .int .u32 2, .agg #[.slice A8 n8 c8], .agg (([.int .i64 0, .int .u32 0] : List Value) ++ (List.replicate 32 (.int .u8 0 : Value))).toArray, .slice (some ⟨bF1_6, 0, none⟩) 1 1, .slice (some ⟨bF1_9, 0, none⟩) 1 1]) rfl Tryz.call9 (Ret.mono h ?_))
     clear h; rintro _ wq1_0 ⟨A9, n9, c9, A10, n10, c10, x8, x9, d1, x10, rfl, hl0, hkf, h⟩
     have hE : Ext wq1_0 wq1_0 := Mod.refl _ _; have hF := hF.call hkf; have hz := Nat.le_trans hz hkf.1
     refine ⟨fun hh => absurd hh (by decide), ?_⟩
     refine qbo 11 rfl (qbz (v := .tuple #[.slice A9 n9 c9, .slice A10 n10 c10, .agg (([.int .i64 x8, .int .u32 x9] : List Value) ++ d1).toArray, .int .i64 x10])) (qbo 12 rfl (qbz (v := .slice A9 n9 c9)) (qbo 13 rfl (qbz (v := .slice A10 n10 c10)) (qbo 14 rfl (qbz (v := .agg (([.int .i64 x8, .int .u32 x9] : List Value) ++ d1).toArray)) (qbo 15 rfl (qbz (v := .int .i64 x10)) (qbm 16 rfl ((qac rfl Tryz.zeroValue46 ?_)))))))
     intro bF1_16 wz1 e1 e2
     have hA := (Mod.refl (fun _ => False) wq1_0).alloc e2
     refine ⟨fun _ hk => Keep.of_ext hk hz hA, ?_⟩
     have hE := hE.trans hA; have hF := hF.alloc (cs := (([.int .i64 0, .int .u32 0] : List Value) ++ (List.replicate 32 (.int .u8 0 : Value))).toArray) (t := 46) e1 e2; have hz := Nat.le_trans hz hA.size
     replace h := h bF1_16 _ hE (hF.sub (by simp [Value.cells]))
     refine qbo 17 rfl (qbz (v := .slice A9 n9 c9)) (qbo 18 rfl (qbz (v := .slice A10 n10 c10)) ?_)
     obtain ⟨hl, h1, hw, h⟩ := h
     refine qbm 19 rfl (qbd (cs := (([.int .i64 x8, .int .u32 x9] : List Value) ++ d1)) rfl Tryz.sizeOf46 hl h1 hw ?_)
     intro w1012 e1; replace h := h w1012 e1
     refine ⟨fun hh => absurd hh (by decide), ?_⟩
     refine qbo 20 rfl (qbz (v := .int .i64 x10)) (qbk (qz ?_))
     exact ⟨(A9, n9, c9, A10, n10, c10, (some ⟨bF1_16, 0, none⟩), x10), h, qaa⟩
end Go.Proofs.YtpkfdhlkknanmaaGreat
