/-
 The document's own digest comes to the same law.
-/
import Derived.Test.YtpkfdhlkknanmaaGreatSha5
set_option linter.all false
namespace Go.Proofs.YtpkfdhlkknanmaaGreat
open Go Go.RowKit Go.Proofs
theorem RdS.row {w : World} {A : Option Addr} {k : IntKind} {l : List Int} (h : RdS w A (Iv k l)) (hne : 0 < l.length) : ∃ b o, A = some ⟨b, o, none⟩ ∧ ∀ (j : Nat) y, l[j]? = some y → w.cell? ⟨b, o + ((j : Int)).toNat * 1, none⟩ = some (.int k y) := by
 rcases h with h | ⟨b, o, e, hr⟩
 ·have : (Iv k l).length = 0 := by rw [h]; rfl
  simp at this; subst this; simp at hne
 ·exact ⟨b, o, e, fun j y hy => by rw [Int.toNat_natCast, Nat.mul_one]; exact hr j _ (Iv_get hy)⟩
theorem all_ok (w : World) : Ret Tryz.prog 67 #[] w fun v w' => ∃ A c B d, v = .tuple #[.slice A 64 c, .slice B 8 d] ∧ RdS w' A (Iv .u32 kL) ∧ RdS w' B (Iv .u32 s0.l) ∧ Ext w w' := by
 refine L_67 w _ ((primes_ok w).mono ?_)
 rintro v w1 ⟨A1, c1, rfl, hr1, m1⟩
 refine ⟨A1, 64, c1, rfl, ?_⟩
 have s1 := m1.size
 have hp : (Un p64).length = 64 := rfl
 have hpg : ∀ t, t < 64 → (Un p64)[t]? = some ((p64.getD t 0 : Nat) : Int) := fun t ht => Un_get (by rw [List.getD_eq_getElem?_getD, List.getElem?_eq_getElem (show t < p64.length from ht)]; rfl)
 refine ⟨fun A n c x w2 => ∃ t : Nat, x = t ∧ t ≤ 64 ∧ n = t ∧ OX 23 .u32 w2 w1.heap.size A c (kL.take t) ∧ Fro w1.heap.size w1 w2, fun _ _ _ x _ => (64 - x).toNat, ⟨0, rfl, by omega, rfl, OX.nil _ _ _ _, Mod.refl _ _⟩, ?_⟩
 rintro A2 n2 c2 x1 w2 ⟨t, rfl, ht, rfl, o2, f2⟩
 refine ⟨fun hlt => ?_, fun hge => ?_⟩
 ·obtain ⟨b, o, hA, hrow⟩ := (hr1.ext f2.ext).row (by decide)
  have q3 : IntKind.i64.wrap ((n2 : Int) + 1) = ((n2 + 1 : Nat) : Int) := wrap_i64 (by omega) (by omega)
  rw [q3]
  refine ⟨b, o, hA, by omega, by omega, _, hrow n2 _ (hpg n2 (by omega)), (cube_ok w2 (by omega)).mono ?_⟩
  rintro v w3 ⟨rfl, rfl⟩
  refine ⟨_, rfl, ?_⟩
  intro b2 w4 e1 e2
  refine o2.push f2.size (by rw [List.length_take]; show min n2 64 = n2; omega) e1 e2 (by omega) (by decide) fun A3 c3 w5 o5 f5 => ⟨⟨n2 + 1, rfl, by omega, rfl, ?_, f2.trans f5⟩, by dsimp only; omega⟩
  have : kL.take (n2 + 1) = kL.take n2 ++ [kL.getD n2 0] := by rw [List.take_succ, kL_get (by omega)]; rfl
  rw [this]; exact o5
 ·obtain rfl : n2 = 64 := by omega
  have e64 : kL.take 64 = kL := rfl
  rw [e64] at o2
  have s2 := f2.size
  refine ⟨fun A n c x w6 => ∃ t : Nat, x = t ∧ t ≤ 8 ∧ n = t ∧ OX 23 .u32 w6 w2.heap.size A c (s0.l.take t) ∧ Fro w2.heap.size w2 w6, fun _ _ _ x _ => (8 - x).toNat, ⟨0, rfl, by omega, rfl, OX.nil _ _ _ _, Mod.refl _ _⟩, ?_⟩
  rintro A4 n3 c4 x4 w6 ⟨t, rfl, ht, rfl, o6, f6⟩
  refine ⟨fun hlt => ?_, fun hge2 => ?_⟩
  ·obtain ⟨b, o, hA, hrow⟩ := ((hr1.ext f2.ext).ext f6.ext).row (by decide)
   have q3 : IntKind.i64.wrap ((n3 : Int) + 1) = ((n3 + 1 : Nat) : Int) := wrap_i64 (by omega) (by omega)
   rw [q3]
   refine ⟨b, o, hA, by omega, by omega, _, hrow n3 _ (hpg n3 (by omega)), (square_ok w6 (by omega)).mono ?_⟩
   rintro v w7 ⟨rfl, rfl⟩
   refine ⟨_, rfl, ?_⟩
   intro b4 w8 e1 e2
   refine o6.push f6.size (by rw [List.length_take]; show min n3 8 = n3; omega) e1 e2 (by omega) (by decide) fun A5 c5 w9 o9 f9 => ⟨⟨n3 + 1, rfl, by omega, rfl, ?_, f6.trans f9⟩, by dsimp only; omega⟩
   obtain ⟨a, ha⟩ := s0.get (i := n3) (by omega)
   have : s0.l.take (n3 + 1) = s0.l.take n3 ++ [s0.l.getD n3 0] := by rw [List.take_succ, List.getD_eq_getElem?_getD, ha]; rfl
   rw [this]; exact o9
  ·obtain rfl : n3 = 8 := by omega
   exact ⟨A2, c2, A4, c4, rfl, o2.rd.ext f6.ext, o6.rd, (m1.trans f2.ext).trans f6.ext⟩
theorem refTurn_ok {w : World} {x : Int} {n : Nat} (hx : R32 x) (hn : 1 ≤ n ∧ n < 32) : Ret Tryz.prog 83 #[.int .u32 x, .int .i64 n] w fun v w' => v = .int .u32 (rotl (32 - n) x) ∧ w' = w := by
 have q : (IntKind.i64.wrap ((n : Int).tmod 32 + 32)).tmod 32 = (n : Int) := by
  have h1 := tmod_nat n 32
  rw [show ((32 : Nat) : Int) = 32 from rfl] at h1
  rw [h1, wrap_i64 (by omega) (by omega), show ((n % 32 : Nat) : Int) + 32 = ((n % 32 + 32 : Nat) : Int) by omega]
  have h2 := tmod_nat (n % 32 + 32) 32
  rw [show ((32 : Nat) : Int) = 32 from rfl] at h2
  rw [h2]; omega
 refine L_83 x n w _ ?_
 unfold S_83
 rw [q]
 refine ⟨fun x3 x4 w1 => w1 = w ∧ ∃ i : Nat, x4 = i ∧ i ≤ n ∧ ((i = 0 ∧ x3 = x) ∨ (0 < i ∧ x3 = rotl (32 - i) x)), fun _ x4 _ => (n - x4).toNat, ⟨rfl, 0, rfl, by omega, .inl ⟨rfl, rfl⟩⟩, ?_⟩
 rintro x3 x4 w1 ⟨rfl, i, rfl, hi, hI⟩
 refine ⟨fun hlt => ?_, fun hge => ?_⟩
 ·have q3 : IntKind.i64.wrap ((i : Int) + 1) = ((i + 1 : Nat) : Int) := wrap_i64 (by omega) (by omega)
  rw [q3]
  refine ⟨⟨rfl, i + 1, rfl, by omega, .inr ⟨by omega, ?_⟩⟩, by dsimp only; omega⟩
  change stepR x3 = _
  rcases hI with ⟨rfl, rfl⟩ | ⟨h0, rfl⟩
  ·obtain ⟨m, rfl, hm⟩ := hx.nat
   rw [stepR_nat hm]
   show _ = rotl 31 (m : Int)
   rw [rotl_nat]
   congr 1
   show m / 2 + m % 2 * 2 ^ 31 = m % 2 ^ 1 * 2 ^ 31 + m / 2 ^ 1
   omega
  ·rcases rotr_succ (n := i) (x := x) (by omega) hx with h | h
   ·exact h.symm
   ·omega
 ·obtain rfl : i = n := by omega
  rcases hI with ⟨rfl, _⟩ | ⟨_, rfl⟩
  ·omega
  ·exact ⟨rfl, rfl⟩
theorem refpad_ok {w : World} {A : Option Addr} {n c : Nat} {txt : List Int} (hl : txt.length = n) (hr : RdS w A (By txt)) (few : n ≤ 900000) :
  Ret Tryz.prog 68 #[.slice A n c] w fun v w' => ∃ A' c', v = .slice A' (n + padZ n + 9) c' ∧ OX 5 .u8 w' w.heap.size A' c' (txt ++ padL n) ∧ Ext w w' := by
 refine L_68 A n c w _ ?_
 refine (OX.nil 5 .u8 w w.heap.size).app (Nat.le_refl _) rfl hl hr (by omega) (by decide) fun A2 c2 w1 o1 f1 => ?_
 rw [List.nil_append] at o1
 intro b1 w2 e1 e2
 refine o1.push f1.size (by omega) e1 e2 (by omega) (by decide) fun A3 c3 w3 o3 f3 => ?_
 have hpz : padZ n ≤ 63 := by unfold padZ; omega
 refine ⟨fun A4 n2 c4 w4 => ∃ j : Nat, j ≤ padZ n ∧ n2 = n + 1 + j ∧ OX 5 .u8 w4 w.heap.size A4 c4 (txt ++ 128 :: List.replicate j 0) ∧ Fro w.heap.size w w4, fun _ n2 _ _ => n + 65 - n2, ⟨0, by omega, by omega, by simpa using o3, f1.trans f3⟩, ?_⟩
 rintro A4 n2 c4 w4 ⟨j, hj, rfl, o4, f4⟩
 have q1 : (((n + 1 + j : Nat) : Int)).tmod 64 = (((n + 1 + j) % 64 : Nat) : Int) := tmod_nat _ 64
 rw [q1]
 refine ⟨fun hne => ?_, fun heq => ?_⟩
 ·have hj2 : j + 1 ≤ padZ n := by unfold padZ at *; omega
  intro b2 w5 e3 e4
  refine o4.push f4.size (by simp; omega) e3 e4 (by omega) (by decide) fun A5 c5 w6 o6 f6 => ⟨⟨j + 1, hj2, by omega, ?_, f4.trans f6⟩, by dsimp only; omega⟩
  rw [List.replicate_succ', ← List.cons_append, ← List.append_assoc]
  exact o6
 ·obtain rfl : j = padZ n := by unfold padZ at *; omega
  refine ⟨fun A6 n3 c6 x1 w7 => ∃ i : Nat, i ≤ 8 ∧ x1 = 56 - 8 * (i : Int) ∧ n3 = n + 1 + padZ n + i ∧ OX 5 .u8 w7 w.heap.size A6 c6 (txt ++ 128 :: List.replicate (padZ n) 0 ++ (List.range i).map (lb n)) ∧ Fro w.heap.size w w7, fun _ _ _ x1 _ => (x1 + 8).toNat,
   ⟨0, by omega, by omega, by omega, by simpa using o4, f4⟩, ?_⟩
  rintro A6 n3 c6 x1 w7 ⟨i, hi, rfl, rfl, o7, f7⟩
  refine ⟨fun hge => ?_, fun hlt => ?_⟩
  ·have q3 : IntKind.i64.wrap (56 - 8 * (i : Int) - 8) = 56 - 8 * ((i + 1 : Nat) : Int) := by rw [wrap_i64 (by omega) (by omega)]; omega
   have q4 : IntKind.u8.wrap (iShr .u64 (IntKind.u64.wrap (IntKind.u64.wrap (n : Int) * 8)) (56 - 8 * (i : Int))) = lb n i := by
    unfold lb
    have h1 : IntKind.u64.wrap (IntKind.u64.wrap (n : Int) * 8) = IntKind.u64.wrap (8 * (n : Int)) := by rw [w64_eq, w64_eq, w64_eq]; omega
    have h2 : (56 - 8 * (i : Int)) = ((8 * (7 - i) : Nat) : Int) := by omega
    rw [h1, h2]
   rw [q3, q4]
   refine ⟨by omega, ?_⟩
   intro b3 w8 e5 e6
   refine o7.push f7.size (by simp; omega) e5 e6 (by omega) (by decide) fun A7 c7 w9 o9 f9 => ⟨⟨i + 1, by omega, rfl, by omega, ?_, f7.trans f9⟩, by dsimp only; omega⟩
   rw [range_snoc, ← List.append_assoc]
   exact o9
  ·obtain rfl : i = 8 := by omega
   refine ⟨A6, c6, by congr 1; omega, ?_, f7.ext⟩
   have : txt ++ padL n = txt ++ 128 :: List.replicate (padZ n) 0 ++ (List.range 8).map (lb n) := by simp [padL]
   rw [this]; exact o7
end Go.Proofs.YtpkfdhlkknanmaaGreat
