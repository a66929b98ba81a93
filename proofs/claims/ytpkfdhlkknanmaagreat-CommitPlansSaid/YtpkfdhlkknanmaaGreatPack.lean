/-
 Rows of bytes of the call's own, and what pack.Fill and pack.Num make.
-/
import Derived.Test.YtpkfdhlkknanmaaGreatShape5
import Derived.Test.YtpkfdhlkknanmaaGreatW4
set_option linter.all false
namespace Go.Proofs.YtpkfdhlkknanmaaGreat
open Go Go.RowKit Go.Proofs
def OB (w : World) (base : Nat) (A : Option Addr) (c : Nat) (l : List Int) : Prop := Own w base 5 1 A l.length c (By l)
section
variable {w w' : World} {base : Nat} {A : Option Addr} {c : Nat} {l : List Int}
theorem OB.nil (w : World) (base : Nat) : OB w base none 0 [] := own_nil w base _ 1
theorem OB.rdp (h : OB w base A c l) : RdP (fun k => base ≤ k ∧ k < w.heap.size) w A (By l) := Own.rd h
theorem OB.rd (h : OB w base A c l) : RdS w A (By l) := h.rdp.rd
theorem OB.ext (h : OB w base A c l) (hm : Ext w w') : OB w' base A c l := Own.ext h hm fun _ _ _ => id
theorem OB.room (h : OB w base A c l) {m : Nat} (hm : l.length + m ≤ c) : Room w A l.length m := by
 have := Own.room h hm
 simpa using this
theorem OB.mono {b2 : Nat} (h : OB w base A c l) (hb : b2 ≤ base) : OB w b2 A c l := by
 refine ⟨h.1, ?_⟩
 rcases h.2 with h | ⟨g, cap, cur, e, h1, h2⟩
 ·exact .inl h
 ·exact .inr ⟨g, cap, cur, e, by omega, h2⟩
theorem OB.app {n m : Nat} {k : List Int} {B : Option Addr} {K : Option Addr → Nat → World → Prop} (h : OB w base A c l) (hb : base ≤ w.heap.size) (hn : l.length = n) (hk : k.length = m) (hr : RdS w B (By k)) (hfew : n + m ≤ 1099511627776)
  (hK : ∀ A' c' w', OB w' base A' c' (l ++ k) → Fro base w w' → K A' c' w') :
  ∃ l1 l2 : List Value, (n + m) * 1 ≤ 140737488355328 ∧ l1.length = n * 1 ∧ RdS w A l1 ∧ l2.length = m * 1 ∧ RdS w B l2 ∧ One l2 ∧ (n + m ≤ c → Room w A (n * 1) (m * 1)) ∧
   ∀ A' c' w', Appended w 5 1 #[.int .u8 0] A n c m l1 l2 A' c' w' → K A' c' w' := by
 subst hn; subst hk
 refine ⟨By l, By k, by omega, by simp, h.rd, by simp, hr, One_By k, fun hc => by simpa using h.room hc, fun A' c' w' ha => ?_⟩
 obtain ⟨h1, h2⟩ := Own.fro h rfl (by simp) hb ha
 refine hK A' c' w' ?_ h2
 unfold OB
 rw [By_append, List.length_append]
 exact h1
theorem OB.push {n b1 : Nat} {x : Int} {w1 : World} {K : Option Addr → Nat → World → Prop} (h : OB w base A c l) (hb : base ≤ w.heap.size) (hn : l.length = n) (e1 : b1 = w.heap.size) (e2 : w1 = w.alloc (.cells ([.int .u8 x] : List Value).toArray 5))
  (hfew : n + 1 ≤ 1099511627776) (hK : ∀ A' c' w', OB w' base A' c' (l ++ [x]) → Fro base w w' → K A' c' w') :
  ∃ l1 l2 : List Value, (n + 1) * 1 ≤ 140737488355328 ∧ l1.length = n * 1 ∧ RdS w1 A l1 ∧ l2.length = 1 * 1 ∧ RdS w1 (some ⟨b1, 0, none⟩) l2 ∧ One l2 ∧ (n + 1 ≤ c → Room w1 A (n * 1) (1 * 1)) ∧
   ∀ A' c' w', Appended w1 5 1 #[.int .u8 0] A n c 1 l1 l2 A' c' w' → K A' c' w' := by
 have m1 : Ext w w1 := (Mod.refl _ _).alloc e2
 have hB : Blk w1 b1 5 ([.int .u8 x] : List Value).toArray := Blk.new e1 e2
 refine (h.ext m1).app (k := [x]) (m := 1) (by have := m1.size; omega) hn rfl (.inr ⟨b1, 0, rfl, hB.range_all⟩) hfew fun A' c' w' h1 h2 => hK A' c' w' h1 ((Mod.of_ext m1).trans h2)
theorem OB.zeros {n : Nat} {x : Int} {K : Option Addr → Nat → World → Prop} (h : OB w base A c l) (hb : base ≤ w.heap.size) (hn : l.length = n) (h0 : 0 ≤ x) (hfew : n + x.toNat ≤ 1099511627776)
  (hK : ∀ A' c' w', OB w' base A' c' (l ++ List.replicate x.toNat 0) → Fro base w w' → K A' c' w') :
  ∃ l1 : List Value, (0 : Int) ≤ x ∧ (n + x.toNat) * 1 ≤ 140737488355328 ∧ l1.length = n ∧ RdS w A l1 ∧ (n + x.toNat ≤ c → Room w A n x.toNat) ∧
   ∀ A' c' w', Appended w 5 1 #[.int .u8 0] A n c x.toNat l1 (List.replicate x.toNat (.int .u8 0)) A' c' w' → K A' c' w' := by
 subst hn
 refine ⟨By l, h0, by omega, by simp, h.rd, fun hc => h.room hc, fun A' c' w' ha => ?_⟩
 obtain ⟨h1, h2⟩ := Own.fro h rfl (by simp) hb ha
 refine hK A' c' w' ?_ h2
 unfold OB
 rw [By_append, List.length_append, List.length_replicate]
 have : By (List.replicate x.toNat 0) = List.replicate x.toNat (.int .u8 0) := List.map_replicate ..
 rw [this]
 exact h1
end
theorem clone_own {w : World} {A : Option Addr} {n c : Nat} {l : List Int} (hl : l.length = n) (hr : RdS w A (By l)) (hn : n ≤ 1099511627776) :
  Ret Tryz.prog 64 #[.slice A n c] w fun v w' => ∃ A' c', v = .slice A' n c' ∧ OB w' w.heap.size A' c' l ∧ Ext w w' := by
 subst hl
 refine L_64 A l.length c w _ ⟨?_, ?_⟩
 ·rintro rfl
  have := rds_none hr
  have : l = [] := by simpa [By] using this
  subst this
  exact ⟨none, 0, rfl, OB.nil _ _, Mod.refl _ _⟩
 ·intro _ b1 w1 e1 e2
  have hm1 : Ext w w1 := (Mod.refl _ _).alloc e2
  have hB : Blk w1 b1 5 ([] : List Value).toArray := Blk.new e1 e2
  have hown : OB w1 w.heap.size (some ⟨b1, 0, none⟩) 0 [] := Own.new (cs := []) rfl (Nat.zero_le _) (by omega) hB
  refine hown.app (by have := hm1.size; omega) rfl rfl (hr.ext hm1) (by omega) fun A2 c2 w2 h1 h2 => ⟨A2, c2, by rw [Nat.zero_add], by simpa using h1, (Fro.ext ((Mod.of_ext hm1).trans h2))⟩
theorem fill_ok {w : World} {A : Option Addr} {n c : Nat} {l : List Int} {x : Int} (hl : l.length = n) (hr : RdS w A (By l)) (hn : n ≤ 1000000) (hx : x ≤ 1000000) :
  Ret Tryz.prog 48 #[.slice A n c, .int .i64 x] w fun v w' => (x < n ∧ v = .tuple #[.slice none 0 0, .int .i64 1] ∧ w' = w) ∨
   ((n : Int) ≤ x ∧ ∃ A' c', v = .tuple #[.slice A' x.toNat c', .int .i64 0] ∧ OB w' w.heap.size A' c' (l ++ List.replicate (x.toNat - n) 0) ∧ Ext w w') := by
 refine L_48 A n c x w _ ⟨fun h => .inl ⟨by omega, rfl, rfl⟩, fun h => ?_⟩
 refine (clone_own hl hr (by omega)).mono ?_
 rintro v w1 ⟨A2, c2, rfl, h2, m1⟩
 have hw : IntKind.i64.wrap (x - (n : Int)) = x - n := wrap_i64 (by omega) (by omega)
 have ht : (x - (n : Int)).toNat = x.toNat - n := by omega
 refine ⟨A2, n, c2, rfl, ?_⟩
 rw [hw]
 refine h2.zeros m1.size hl (by omega) (by omega) fun A3 c3 w3 h3 m3 => .inr ⟨by omega, A3, c3, ?_, by rw [ht] at h3; exact h3, Fro.ext ((Mod.of_ext m1).trans m3)⟩
 rw [ht, show n + (x.toNat - n) = x.toNat by omega]
def leB : Nat → Int → List Int
 | 0, _ => []
 | k + 1, x => x % 256 :: leB k (x / 256)
theorem leB_length : ∀ k x, (leB k x).length = k
 | 0, _ => rfl
 | k + 1, x => by simp [leB, leB_length k]
theorem wrap_u8_mod (x : Int) : IntKind.u8.wrap x = x % 256 := by
 simp only [IntKind.wrap, IntKind.bits, IntKind.signed, Bool.false_and, Bool.false_eq_true, if_false]; omega
theorem fdiv_256 (x : Int) : Int.fdiv x (2 ^ 8) = x / 256 := by
 rw [Int.fdiv_eq_ediv_of_nonneg _ (by decide)]; rfl
def NumJ (w : World) (l : List Int) (n k : Nat) (x0 : Int) (j : Nat) (y : Int) (A3 : Option Addr) (n3 c3 : Nat) (w3 : World) : Prop :=
 j ≤ k ∧ n3 = n + (k - j) ∧ ∃ pre, OB w3 w.heap.size A3 c3 (l ++ pre) ∧ pre.length = k - j ∧ Fro w.heap.size w w3 ∧ pre ++ leB j y = leB k x0
theorem NumJ.one {w w3 w4 : World} {l : List Int} {n k j n3 c3 b1 : Nat} {x0 y : Int} {A3 : Option Addr} {K : Option Addr → Nat → World → Prop} (hl : l.length = n) (hn : n ≤ 1000000) (hk : k ≤ 8)
  (h : NumJ w l n k x0 (j + 1) y A3 n3 c3 w3) (e1 : b1 = w3.heap.size) (e2 : w4 = w3.alloc (.cells ([.int .u8 (IntKind.u8.wrap y)] : List Value).toArray 5))
  (hK : ∀ A' c' w', NumJ w l n k x0 j (Int.fdiv y (2 ^ 8)) A' (n3 + 1) c' w' → K A' c' w') :
  ∃ l1 l2 : List Value, (n3 + 1) * 1 ≤ 140737488355328 ∧ l1.length = n3 * 1 ∧ RdS w4 A3 l1 ∧ l2.length = 1 * 1 ∧ RdS w4 (some ⟨b1, 0, none⟩) l2 ∧ One l2 ∧ (n3 + 1 ≤ c3 → Room w4 A3 (n3 * 1) (1 * 1)) ∧
   ∀ A' c' w', Appended w4 5 1 #[.int .u8 0] A3 n3 c3 1 l1 l2 A' c' w' → K A' c' w' := by
 obtain ⟨hj, rfl, pre, h1, h2, h3, h4⟩ := h
 refine h1.push h3.size (by rw [List.length_append]; omega) e1 e2 (by omega) fun A' c' w' h5 h6 => hK A' c' w' ⟨by omega, by omega, pre ++ [IntKind.u8.wrap y], ?_, by rw [List.length_append, h2]; simp only [List.length_cons, List.length_nil]; omega, h3.trans h6, ?_⟩
 ·rw [← List.append_assoc]; exact h5
 ·rw [wrap_u8_mod, fdiv_256, ← h4, List.append_assoc]; rfl
theorem num_ok {w : World} {A : Option Addr} {n c : Nat} {l : List Int} {x : Int} {k : Nat} (hl : l.length = n) (hr : RdS w A (By l)) (hn : n ≤ 1000000) (hk : k = 1 ∨ k = 2 ∨ k = 4 ∨ k = 8) :
  Ret Tryz.prog 63 #[.slice A n c, .int .u64 x, .int .i64 k] w fun v w' => ∃ A' c', v = .slice A' (n + k) c' ∧ OB w' w.heap.size A' c' (l ++ leB k x) ∧ Ext w w' := by
 refine L_63 A n c x k w _ ((clone_own hl hr (by omega)).mono ?_)
 rintro v w1 ⟨A2, c2, rfl, h2, m1⟩
 refine ⟨A2, n, c2, rfl, (L_78 k w1 (fun v w2 => v = .int .i64 k ∧ w2 = w1) ?_).mono ?_⟩
 ·rcases hk with rfl | rfl | rfl | rfl <;> exact ⟨rfl, rfl⟩
 rintro v w2 ⟨rfl, rfl⟩
 have hk8 : k ≤ 8 := by omega
 have h0 : NumJ w l n k x k x A2 n c2 w2 := ⟨by omega, by omega, [], by rw [List.append_nil]; exact h2, by simp, Mod.of_ext m1, rfl⟩
 have hend : ∀ {y : Int} {A3 : Option Addr} {n3 c3 : Nat} {w3 : World}, NumJ w l n k x 0 y A3 n3 c3 w3 → ∃ A' c', Value.slice A3 n3 c3 = .slice A' (n + k) c' ∧ OB w3 w.heap.size A' c' (l ++ leB k x) ∧ Ext w w3 := by
  rintro y A3 n3 c3 w3 ⟨_, rfl, pre, g1, g2, g3, g4⟩
  simp only [leB, List.append_nil] at g4
  exact ⟨A3, c3, by rw [Nat.sub_zero], by rw [← g4]; exact g1, Fro.ext g3⟩
 refine ⟨k, rfl, fun y A3 n3 c3 w3 => NumJ w l n k x 2 y A3 n3 c3 w3, ?_, fun y A3 n3 c3 w3 => NumJ w l n k x 4 y A3 n3 c3 w3, ?_, fun y A3 n3 c3 w3 => NumJ w l n k x 6 y A3 n3 c3 w3, ?_, ?_, ?_⟩
 ·intro y A3 n3 c3 w3 h b1 w4 e1 e2
  refine NumJ.one hl hn hk8 h e1 e2 fun A' c' w' h' b2 w6 e3 e4 => NumJ.one hl hn hk8 h' e3 e4 fun A' c' w' h' => hend h'
 ·intro y A3 n3 c3 w3 h b1 w4 e1 e2
  refine NumJ.one hl hn hk8 h e1 e2 fun A' c' w' h' b2 w6 e3 e4 => NumJ.one hl hn hk8 h' e3 e4 fun A' c' w' h' => h'
 ·intro y A3 n3 c3 w3 h b1 w4 e1 e2
  refine NumJ.one hl hn hk8 h e1 e2 fun A' c' w' h' b2 w6 e3 e4 => NumJ.one hl hn hk8 h' e3 e4 fun A' c' w' h' => h'
 ·intro h8 b1 w4 e1 e2
  obtain rfl : k = 8 := by omega
  refine NumJ.one hl hn hk8 h0 e1 e2 fun A' c' w' h' b2 w6 e3 e4 => NumJ.one hl hn hk8 h' e3 e4 fun A' c' w' h' => h'
 ·intro h8
  refine ⟨fun h => by omega, fun h7 => ⟨fun h => by omega, fun h6 => ⟨fun h => by omega, fun h5 => ⟨fun h => ?_, fun h4 => ⟨fun h => by omega, fun h3 => ⟨fun h => ?_, fun h1 => ?_⟩⟩⟩⟩⟩⟩
  ·obtain rfl : k = 4 := by omega
   exact h0
  ·obtain rfl : k = 2 := by omega
   exact h0
  ·obtain rfl : k = 1 := by omega
   intro b1 w4 e1 e2
   exact NumJ.one hl hn hk8 h0 e1 e2 fun A' c' w' h' => hend h'
end Go.Proofs.YtpkfdhlkknanmaaGreat
