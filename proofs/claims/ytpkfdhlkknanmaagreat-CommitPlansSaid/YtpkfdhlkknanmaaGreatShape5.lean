/-
 The document's own shape: New.
-/
import Derived.Test.YtpkfdhlkknanmaaGreatShape4
set_option linter.all false
namespace Go.Proofs.YtpkfdhlkknanmaaGreat
open Go Go.RowKit Go.Proofs
theorem OX.pushX {t : TypeId} {k : IntKind} {w : World} {base : Nat} {A : Option Addr} {c : Nat} {l : List Int} {by_ n b1 : Nat} {z : Value} {x : Int} {w1 : World} {K : Option Addr → Nat → World → Prop} (h : OX t k w base A c l) (hb : base ≤ w.heap.size) (hn : l.length = n) (e1 : b1 = w.heap.size) (e2 : w1 = w.alloc (.cells ([.int k x] : List Value).toArray t))
  (hfew : n + 1 ≤ 1099511627776) (hby : by_ ≤ 64) (hK : ∀ A' c' w', OX t k w' base A' c' (l ++ [x]) → Mod (fun j => ∃ o, A = some ⟨j, o, none⟩) w w' → (∀ b o, A' = some ⟨b, o, none⟩ → A = some ⟨b, o, none⟩ ∨ w.heap.size ≤ b) → K A' c' w') :
  ∃ la lb : List Value, (n + 1) * by_ ≤ 140737488355328 ∧ la.length = n * 1 ∧ RdS w1 A la ∧ lb.length = 1 * 1 ∧ RdS w1 (some ⟨b1, 0, none⟩) lb ∧ One lb ∧ (n + 1 ≤ c → Room w1 A (n * 1) (1 * 1)) ∧
   ∀ A' c' w', Appended w1 t 1 #[z] A n c 1 la lb A' c' w' → K A' c' w' := by
 subst hn
 have m1 : Ext w w1 := (Mod.refl _ _).alloc e2
 have hB : Blk w1 b1 t ([.int k x] : List Value).toArray := Blk.new e1 e2
 have h1 := h.ext m1
 refine ⟨Iv k l, Iv k [x], ?_, by simp, h1.rd, by simp, .inr ⟨b1, 0, rfl, hB.range_all⟩, One_Iv k _, fun hc => by simpa using h1.room hc, fun A' c' w' ha => ?_⟩
 ·calc (l.length + 1) * by_ ≤ (l.length + 1) * 64 := Nat.mul_le_mul_left _ hby
   _ ≤ 140737488355328 := by omega
 obtain ⟨g1, g2, g3⟩ := Own.app h1 rfl (by simp) (by have := m1.size; omega) ha
 refine hK A' c' w' ?_ ((Mod.of_ext m1).trans g2) fun b o e => ?_
 ·unfold OX
  rw [Iv_append, List.length_append]
  exact g1
 ·rcases g3 b o e with h | h
  ·exact .inl h
  ·exact .inr (by have := m1.size; omega)
structure Two (w : World) (b2 base : Nat) (x : Int) (l1 l2 : List Int) : Prop where
 ex : ∃ A c A' c', Blk w b2 37 #[.int .i64 x, .slice A l1.length c, .slice A' l2.length c'] ∧ OX 3 .i64 w base A c l1 ∧ OX 3 .i64 w base A' c' l2 ∧ (∀ b o o', A = some ⟨b, o, none⟩ → A' ≠ some ⟨b, o', none⟩)
 lt : b2 < base
 le : base ≤ w.heap.size
theorem Two.both {w : World} {b2 base : Nat} {x : Int} {l1 l2 : List Int} (h : Two w b2 base x l1 l2) (y z : Int) (few : l1.length ≤ 100000) (few2 : l2.length ≤ 100000) {K : World → Prop} (hK : ∀ w', Two w' b2 base x (l1 ++ [y]) (l2 ++ [z]) → Mod (fun j => b2 ≤ j) w w' → K w') :
  ∃ (A5 : Option Addr) (n5 : Nat) (c5 : Nat), w.cell? ⟨b2, 1, none⟩ = some (.slice A5 n5 c5) ∧
   ∀ b3 w7, b3 = w.heap.size → w7 = w.alloc (.cells ([.int .i64 y] : List Value).toArray 3) →
   ∃ l1 l2 : List Value, (n5 + 1) * 8 ≤ 140737488355328 ∧ l1.length = n5 * 1 ∧ RdS w7 A5 l1 ∧ l2.length = 1 * 1 ∧ RdS w7 (some ⟨b3, 0, none⟩) l2 ∧ One l2 ∧ (n5 + 1 ≤ c5 → Room w7 A5 (n5 * 1) (1 * 1)) ∧
   ∀ A6 c6 w8, Appended w7 3 1 #[.int .i64 0] A5 n5 c5 1 l1 l2 A6 c6 w8 →
   (w8.cell? ⟨b2, 1, none⟩).isSome = true ∧ w8.frozen? ⟨b2, 1, none⟩ = false ∧
   ∀ w9, w9 = w8.setCell ⟨b2, 1, none⟩ (.slice A6 (n5 + 1) c6) →
   ∃ (A7 : Option Addr) (n6 : Nat) (c7 : Nat), w9.cell? ⟨b2, 2, none⟩ = some (.slice A7 n6 c7) ∧
   ∀ b4 w10, b4 = w9.heap.size → w10 = w9.alloc (.cells ([.int .i64 z] : List Value).toArray 3) →
   ∃ l3 l4 : List Value, (n6 + 1) * 8 ≤ 140737488355328 ∧ l3.length = n6 * 1 ∧ RdS w10 A7 l3 ∧ l4.length = 1 * 1 ∧ RdS w10 (some ⟨b4, 0, none⟩) l4 ∧ One l4 ∧ (n6 + 1 ≤ c7 → Room w10 A7 (n6 * 1) (1 * 1)) ∧
   ∀ A8 c8 w11, Appended w10 3 1 #[.int .i64 0] A7 n6 c7 1 l3 l4 A8 c8 w11 →
   (w11.cell? ⟨b2, 2, none⟩).isSome = true ∧ w11.frozen? ⟨b2, 2, none⟩ = false ∧
   ∀ w12, w12 = w11.setCell ⟨b2, 2, none⟩ (.slice A8 (n6 + 1) c8) → K w12 := by
 obtain ⟨⟨A, c, A', c', hB, o1, o2, hd⟩, hlt, hle⟩ := h
 have ba : ∀ b o, A = some ⟨b, o, none⟩ → base ≤ b ∧ b < w.heap.size := fun b o e => Own.base o1 b o e
 have ba' : ∀ b o, A' = some ⟨b, o, none⟩ → base ≤ b ∧ b < w.heap.size := fun b o e => Own.base o2 b o e
 refine ⟨A, l1.length, c, by rw [hB.cell]; rfl, fun b3 w7 e1 e2 => ?_⟩
 refine o1.pushX hle rfl e1 e2 (by omega) (by decide) fun A6 c6 w8 o8 m8 h8 => ?_
 have hB8 := hB.mod m8 fun ⟨o, e⟩ => by have := ba _ _ e; omega
 have o2' : OX 3 .i64 w8 base A' c' l2 := Own.ext o2 m8 fun b o e ⟨o', e'⟩ => hd b o' o e' e
 have s8 := m8.size
 refine ⟨by rw [hB8.cell]; rfl, hB8.frozen _, fun w9 e9 => ?_⟩
 have hB9 := hB8.set e9
 have m9 : Mod (fun j => j = b2) w8 w9 := (Mod.refl _ _).set (.inr rfl) e9
 have o8' : OX 3 .i64 w9 base A6 c6 (l1 ++ [y]) := OX.mod o8 m9 fun j hj e => by omega
 have o2'' : OX 3 .i64 w9 base A' c' l2 := OX.mod o2' m9 fun j hj e => by omega
 have s9 := m9.size
 refine ⟨A', l2.length, c', by rw [hB9.cell]; rfl, fun b4 w10 e3 e4 => ?_⟩
 refine o2''.pushX (by omega) rfl e3 e4 (by omega) (by decide) fun A8 c8 w11 o11 m11 h11 => ?_
 have hB11 := hB9.mod m11 fun ⟨o, e⟩ => by have := ba' _ _ e; omega
 have o8'' : OX 3 .i64 w11 base A6 c6 (l1 ++ [y]) := Own.ext o8' m11 fun b o e ⟨o', e'⟩ => by
  rcases h8 b o e with h | h
  ·exact hd b o o' h e'
  ·have := ba' _ _ e'; omega
 have s11 := m11.size
 refine ⟨by rw [hB11.cell]; rfl, hB11.frozen _, fun w12 e12 => ?_⟩
 have hB12 := hB11.set e12
 have m12 : Mod (fun j => j = b2) w11 w12 := (Mod.refl _ _).set (.inr rfl) e12
 refine hK w12 ⟨⟨A6, c6, A8, c8, ?_, OX.mod o8'' m12 fun j hj e => by omega, OX.mod o11 m12 fun j hj e => by omega, fun b o o' e e' => ?_⟩, hlt, by have := m12.size; omega⟩ ?_
 ·have : (#[Value.int .i64 x, .slice A6 (l1 ++ [y]).length c6, .slice A8 (l2 ++ [z]).length c8] : Array Value) = ((#[Value.int .i64 x, .slice A l1.length c, .slice A' l2.length c'] : Array Value).setIfInBounds 1 (.slice A6 (l1.length + 1) c6)).setIfInBounds 2 (.slice A8 (l2.length + 1) c8) := by
   simp
  rw [this]; exact hB12
 ·rcases h8 b o e with h | h
  ·rcases h11 b o' e' with h' | h'
   ·exact hd b o o' h h'
   ·have := ba _ _ h; omega
  ·rcases h11 b o' e' with h' | h'
   ·have := ba' _ _ h'; omega
   ·have hb6 := (Own.base o8' b o e).2; omega
 ·exact (((m8.mono fun j _ ⟨o, e⟩ => by have := ba _ _ e; omega).trans (m9.mono fun j _ e => by omega)).trans (m11.mono fun j _ ⟨o, e⟩ => by have := ba' _ _ e; omega)).trans (m12.mono fun j _ e => by omega)
def lvP (P n : Nat) : List Int := Un ((List.range n).map (lvN P))
def fiP (P n : Nat) : List Int := (List.range n).map (fiF P)
theorem lvP_len (P n : Nat) : (lvP P n).length = n := by simp [lvP, Un]
theorem fiP_len (P n : Nat) : (fiP P n).length = n := by simp [fiP]
theorem lvP_snoc (P n : Nat) : lvP P (n + 1) = lvP P n ++ [((lvN P n : Nat) : Int)] := by unfold lvP; rw [List.range_succ, List.map_append, Un_snoc]; rfl
theorem fiP_snoc (P n : Nat) : fiP P (n + 1) = fiP P n ++ [fiF P n] := by unfold fiP; rw [List.range_succ, List.map_append]; rfl
set_option maxHeartbeats 4000000 in
theorem refnew_ok {w : World} (x : Int) : Ret Tryz.prog 5 #[.int .i64 x] w fun v w' => Ext w w' ∧
  ((¬ (1 ≤ x ∧ x ≤ 216) ∧ v = .tuple #[.agg ([.int .i64 0, .slice none 0 0, .slice none 0 0] : List Value).toArray, .int .i64 1]) ∨
  (∃ P : Nat, x = P ∧ ∃ A1 n1 c1 A2 n2 c2, v = .tuple #[.agg ([.int .i64 x, .slice A1 n1 c1, .slice A2 n2 c2] : List Value).toArray, .int .i64 0] ∧ ShR w' x A1 n1 A2 n2 P)) := by
 refine L_5 x w _ ?_
 intro b1 w1 e1 e2
 have hB : Blk w1 b1 37 ([.int .i64 0, .slice none 0 0, .slice none 0 0] : List Value).toArray := Blk.new e1 e2
 have m1 : Ext w w1 := (Mod.refl _ _).alloc e2
 have t1 := hB.lt
 have bad : ¬ (1 ≤ x ∧ x ≤ 216) → w1.there b1 0 3 ∧ ∀ w2, w2 = w1.setCells b1 0 ([.int .i64 0, .slice none 0 0, .slice none 0 0] : List Value) →
   ∃ (x2 : Int) (A1 : Option Addr) (n1 : Nat) (c1 : Nat) (A2 : Option Addr) (n2 : Nat) (c2 : Nat), w2.rangeAt b1 0 ([.int .i64 x2, .slice A1 n1 c1, .slice A2 n2 c2] : List Value) ∧ (Ext w w2 ∧
    ((¬ (1 ≤ x ∧ x ≤ 216) ∧ (.tuple #[.agg ([.int .i64 x2, .slice A1 n1 c1, .slice A2 n2 c2] : List Value).toArray, .int .i64 1] : Value) = .tuple #[.agg ([.int .i64 0, .slice none 0 0, .slice none 0 0] : List Value).toArray, .int .i64 1]) ∨
    (∃ P : Nat, x = P ∧ ∃ A1' n1' c1' A2' n2' c2', (.tuple #[.agg ([.int .i64 x2, .slice A1 n1 c1, .slice A2 n2 c2] : List Value).toArray, .int .i64 1] : Value) = .tuple #[.agg ([.int .i64 x, .slice A1' n1' c1', .slice A2' n2' c2'] : List Value).toArray, .int .i64 0] ∧ ShR w2 x A1' n1' A2' n2' P))) := fun hb =>
  lay_ok hB (by rfl) (by rfl) fun w2 hB2 m2 => ⟨0, none, 0, 0, none, 0, 0, hB2.range_all, Fro.ext ((Mod.of_ext m1).trans (m2.mono fun k hk e => by omega)), .inl ⟨hb, rfl⟩⟩
 refine ⟨fun h => bad (by omega), fun h => ⟨fun h2 => bad (by omega), fun h2 => ?_⟩⟩
 clear bad
 obtain ⟨P, rfl⟩ : ∃ P : Nat, x = P := ⟨x.toNat, by omega⟩
 have hP : 1 ≤ P ∧ P ≤ 216 := by omega
 have hil := itm_le hP
 have hnl := nl_le P
 intro b2 w4 e3 e4
 have m4 : Ext w1 w4 := (Mod.refl _ _).alloc e4
 have hB2 : Blk w4 b2 37 ([.int .i64 0, .slice none 0 0, .slice none 0 0] : List Value).toArray := Blk.new e3 e4
 have t2 := hB2.lt
 refine lay_ok hB2 (by rfl) (by rfl) fun w5 hB5 m5 => ?_
 have s5 := m5.size
 have hT : Two w5 b2 w4.heap.size P (lvP P 0) (fiP P 0) := ⟨⟨none, 0, none, 0, hB5, OX.nil _ _ _ _, OX.nil _ _ _ _, fun b o o' e => by cases e⟩, t2, s5⟩
 have k1 : Blk w5 b1 37 ([.int .i64 0, .slice none 0 0, .slice none 0 0] : List Value).toArray := (hB.ext m4).mod m5 (by omega)
 refine ⟨fun x4 w6 => ∃ i : Nat, x4 = i ∧ i ≤ P ∧ Two w6 b2 w4.heap.size P (lvP P i) (fiP P i) ∧ Mod (fun j => b2 ≤ j) w5 w6, fun x4 _ => (P - x4).toNat, ⟨0, rfl, by omega, hT, Mod.refl _ _⟩, ?_⟩
 rintro x4 w6 ⟨i, rfl, hi, hT6, m6⟩
 refine ⟨fun hlt => ?_, fun hge => ?_⟩
 ·have q1 : IntKind.i64.wrap ((i : Int) + 1) = ((i + 1 : Nat) : Int) := wrap_i64 (by omega) (by omega)
  rw [q1]
  have hl0 : lvN P i = 0 := by unfold lvN; rw [if_pos (by omega)]
  refine hT6.both 0 (-1) (by rw [lvP_len]; omega) (by rw [fiP_len]; omega) fun w12 hT12 m12 => ⟨⟨i + 1, rfl, by omega, ?_, m6.trans m12⟩, by dsimp only; omega⟩
  rw [lvP_snoc, fiP_snoc, hl0]
  have : fiF P i = -1 := by unfold fiF; rw [if_pos hl0]
  rw [this]; exact hT12
 ·obtain rfl : i = P := by omega
  refine ⟨fun x5 x6 x7 w13 => ∃ l : Nat, 1 ≤ l ∧ l ≤ nl i ∧ x5 = ((st i (l - 1) : Nat) : Int) ∧ x6 = ((st i l - st i (l - 1) : Nat) : Int) ∧ x7 = (l : Int) ∧ Two w13 b2 w4.heap.size i (lvP i (st i l)) (fiP i (st i l)) ∧ Mod (fun j => b2 ≤ j) w5 w13, fun _ _ x7 _ => (6 - x7).toNat,
   ⟨1, by omega, by omega, rfl, by simp [st], rfl, hT6, m6⟩, ?_⟩
  rintro x5 x6 x7 w13 ⟨l, hl1, hl2, rfl, rfl, rfl, hT13, m13⟩
  have hs1 := st_le hP l; have hs2 := st_le hP (l - 1)
  refine ⟨fun w14 => w14 = w13 ∧ l < nl i, ?_, fun h1 => ⟨rfl, by omega⟩, fun hne => ⟨fun hgt => ⟨rfl, ?_⟩, fun hle => ?_⟩⟩
  ·rintro w14 ⟨rfl, hlt⟩
   have hnx := st_next i (j := l - 1) (by omega)
   have e1 : l - 1 + 1 = l := by omega
   have e2 : l - 1 + 2 = l + 1 := by omega
   rw [e1, e2] at hnx
   have hs3 := st_le hP (l + 1)
   generalize hmany : st i l - st i (l - 1) = many at *
   generalize hnn : st i (l + 1) - st i l = nn at *
   have hlev : ∀ j, j < nn → st i l + j < itm i ∧ lvN i (st i l + j) = l := fun j hj => lv_eq hP (by omega) (by omega) hlt
   refine ⟨fun x8 x9 w15 => ∃ j : Nat, x8 = j ∧ x9 = ((6 * j : Nat) : Int) ∧ j ≤ nn ∧ Two w15 b2 w4.heap.size i (lvP i (st i l + j)) (fiP i (st i l + j)) ∧ Mod (fun j => b2 ≤ j) w5 w15, fun x8 _ _ => (nn - x8).toNat, ⟨0, rfl, rfl, by omega, hT13, m13⟩, ?_⟩
   rintro x8 x9 w15 ⟨j, rfl, rfl, hj, hT15, m15⟩
   refine ⟨fun hlt2 => ?_, fun hge2 => ?_⟩
   ·have hjn : j < nn := by omega
    obtain ⟨v1, v2⟩ := hlev j hjn
    have q1 : IntKind.i64.wrap (((st i (l - 1) : Nat) : Int) + ((6 * j : Nat) : Int)) = ((st i (l - 1) + 6 * j : Nat) : Int) := by rw [wrap_i64 (by omega) (by omega)]; omega
    have q2 : IntKind.i64.wrap ((j : Int) + 1) = ((j + 1 : Nat) : Int) := wrap_i64 (by omega) (by omega)
    have q3 : IntKind.i64.wrap (((6 * j : Nat) : Int) + 6) = ((6 * (j + 1) : Nat) : Int) := by rw [wrap_i64 (by omega) (by omega)]; omega
    rw [q1, q2, q3]
    refine hT15.both l _ (by rw [lvP_len]; omega) (by rw [fiP_len]; omega) fun w21 hT21 m21 => ⟨⟨j + 1, rfl, rfl, by omega, ?_, m15.trans m21⟩, by dsimp only; omega⟩
    rw [← Nat.add_assoc, lvP_snoc, fiP_snoc, v2]
    have hf : fiF i (st i l + j) = ((st i (l - 1) + 6 * j : Nat) : Int) := by
     unfold fiF
     rw [v2, if_neg (by omega)]
     unfold kidF
     rw [v2, show st i l + j - st i l = j by omega]
    rw [hf]; exact hT21
   ·obtain rfl : j = nn := by omega
    have q1 : IntKind.i64.wrap (((st i (l - 1) : Nat) : Int) + ((many : Nat) : Int)) = ((st i (l + 1 - 1) : Nat) : Int) := by
     rw [wrap_i64 (by omega) (by omega), show l + 1 - 1 = l by omega]
     have : st i (l - 1) ≤ st i l := by
      have := st_mono i (l - 1)
      rw [e1] at this; exact this
     omega
    have q2 : IntKind.i64.wrap ((l : Int) + 1) = ((l + 1 : Nat) : Int) := wrap_i64 (by omega) (by omega)
    rw [q1, q2]
    have e5 : st i l + j = st i (l + 1) := by omega
    rw [e5] at hT15
    refine ⟨⟨l + 1, by omega, by omega, rfl, by rw [show l + 1 - 1 = l by omega, hnn], rfl, hT15, m15⟩, by dsimp only; omega⟩
  ·rcases Nat.lt_or_ge l (nl i) with h | h
   ·exact h
   ·exfalso
    have ht := top_one hP
    have e : l = nl i := by omega
    rw [e] at hgt
    omega
  ·have hln : l = nl i := by
    rcases Nat.lt_or_ge l (nl i) with h | h
    ·exfalso
     rcases nl_cases hP with ⟨e, h1, _⟩ | ⟨e, h1, h2, _⟩ | ⟨e, h1, h2, h3, _⟩ <;> rw [e] at h
     ·omega
     ·obtain rfl : l = 2 := by omega
      simp only [st] at hle; omega
     ·rcases (show l = 2 ∨ l = 3 by omega) with rfl | rfl
      ·simp only [st] at hle; omega
      ·simp only [st] at hle; omega
    ·omega
   subst hln
   obtain ⟨⟨A, c, A', c', hB13, o1, o2, hd⟩, _, _⟩ := hT13
   have k13 := k1.mod m13 (by omega)
   have hr1 : RdS w13 A (Iv .i64 (lvL i)) := o1.rd
   have hr2 : RdS w13 A' (Iv .i64 (fiL i)) := o2.rd
   refine ⟨_, A, _, c, A', _, c', hB13.range_all, lay_ok k13 (by rfl) (by rfl) fun w22 h22 m22 => ⟨_, A, _, c, A', _, c', h22.range_all, ?_, .inr ⟨i, rfl, A, _, c, A', _, c', rfl, ⟨rfl, lvP_len _ _, fiP_len _ _, ?_, ?_, hP⟩⟩⟩⟩
   ·exact Fro.ext ((((Mod.of_ext (m1.trans m4)).trans (m5.mono fun j hj e => by have := m1.size; have := m4.size; omega)).trans (m13.mono fun j hj e => by have := m1.size; omega)).trans (m22.mono fun j hj e => by omega))
   ·exact (o1.rdp.mod m22 fun j hj e => by have := hj.1; omega).rd
   ·exact (o2.rdp.mod m22 fun j hj e => by have := hj.1; omega).rd
end Go.Proofs.YtpkfdhlkknanmaaGreat
