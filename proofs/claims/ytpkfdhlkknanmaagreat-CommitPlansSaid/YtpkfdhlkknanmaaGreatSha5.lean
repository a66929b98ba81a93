/-
 The document's own digest: its constants by whole roots.
-/
import Derived.Test.YtpkfdhlkknanmaaGreatSha4
set_option linter.all false
namespace Go.Proofs.YtpkfdhlkknanmaaGreat
open Go Go.RowKit Go.Proofs
def p64 : List Nat := [2, 3, 5, 7, 11, 13, 17, 19, 23, 29, 31, 37, 41, 43, 47, 53, 59, 61, 67, 71, 73, 79, 83, 89, 97, 101, 103, 107, 109, 113, 127, 131, 137, 139, 149, 151, 157, 163, 167, 173, 179, 181, 191, 193, 197, 199, 211, 223, 227, 229, 233, 239, 241, 251, 257, 263, 269, 271, 277, 281, 283, 293, 307, 311]
def c64 : List Nat := [5411319704, 6194414737, 7344290767, 8215976869, 9551921755, 10098905585, 11043570340, 11460697813, 12214315672, 13195500289, 13492127166, 14311783875, 14809980276, 15046980094, 15499789991, 16133124468, 16720292289, 16907126662, 17444216262, 17784676812, 17950125167, 18429019306, 18734950876, 19175934170, 19734090066, 20001703533, 20132865992, 20390182855, 20516441075, 20764397895, 21588763473, 21813078375, 22141143685, 22248366392, 22769593852, 22871018771, 23170020180, 23461497531, 23651862830, 23931792517, 24205322401, 24295138891, 24734567280, 24820601251, 24990902297, 25075189284, 25569408389, 26045227120, 26200031510, 26276752392, 26428864332, 26653801653, 26727943347, 27092625994, 27306805839, 27517677555, 27725365998, 27793908591, 27997534228, 28131656200, 28198240250, 28526537963, 28973835255, 29099129074]
def q8 : List Nat := [6074000999, 7439101573, 9603838834, 11363415354, 14244795007, 15485724812, 17708603819, 18721328409]
def tHi (x1 x2 : Int) : Int := (IntKind.u64.wrap ((IntKind.u64.wrap ((IntKind.u64.wrap ((IntKind.u64.wrap (x1.tdiv 4294967296)) * (IntKind.u64.wrap (x2.tdiv 4294967296)))) + (IntKind.u64.wrap ((IntKind.u64.wrap ((IntKind.u64.wrap ((IntKind.u64.wrap (x1.tdiv 4294967296)) * (x2.tmod 4294967296))) + (IntKind.u64.wrap ((IntKind.u64.wrap ((x1.tmod 4294967296) * (x2.tmod 4294967296))).tdiv 4294967296)))).tdiv 4294967296)))) + (IntKind.u64.wrap ((IntKind.u64.wrap ((IntKind.u64.wrap ((x1.tmod 4294967296) * (IntKind.u64.wrap (x2.tdiv 4294967296)))) + ((IntKind.u64.wrap ((IntKind.u64.wrap ((IntKind.u64.wrap (x1.tdiv 4294967296)) * (x2.tmod 4294967296))) + (IntKind.u64.wrap ((IntKind.u64.wrap ((x1.tmod 4294967296) * (x2.tmod 4294967296))).tdiv 4294967296)))).tmod 4294967296))).tdiv 4294967296))))
def tLo (x1 x2 : Int) : Int := (IntKind.u64.wrap ((IntKind.u64.wrap ((IntKind.u64.wrap ((IntKind.u64.wrap ((x1.tmod 4294967296) * (IntKind.u64.wrap (x2.tdiv 4294967296)))) + ((IntKind.u64.wrap ((IntKind.u64.wrap ((IntKind.u64.wrap (x1.tdiv 4294967296)) * (x2.tmod 4294967296))) + (IntKind.u64.wrap ((IntKind.u64.wrap ((x1.tmod 4294967296) * (x2.tmod 4294967296))).tdiv 4294967296)))).tmod 4294967296))) * 4294967296)) + ((IntKind.u64.wrap ((x1.tmod 4294967296) * (x2.tmod 4294967296))).tmod 4294967296)))
theorem times_ok (w : World) (x y : Int) : Ret Tryz.prog 100 #[.int .u64 x, .int .u64 y] w fun v w' => v = .tuple #[.int .u64 (tHi x y), .int .u64 (tLo x y)] ∧ w' = w :=
 L_100 x y w _ ⟨rfl, rfl⟩
theorem prime_fact : ∀ p : Fin 312, 2 ≤ p.val → (p64.filter (· < p.val)).length < 64 ∧ p64.filter (· < p.val + 1) = if (p64.filter (· < p.val)).all (fun q => p.val % q != 0) then p64.filter (· < p.val) ++ [p.val] else p64.filter (· < p.val) := by decide +kernel
theorem prime_end : (p64.filter (· < 312)).length = 64 ∧ p64.filter (· < 312) = p64 := by decide +kernel
theorem prime_pos : ∀ q ∈ p64, 0 < q ∧ q < 1000 := by decide +kernel
def Un (l : List Nat) : List Int := l.map fun n : Nat => (n : Int)
theorem Un_get {l : List Nat} {i n : Nat} (h : l[i]? = some n) : (Un l)[i]? = some (n : Int) := by simp [Un, h]
theorem primes_ok (w : World) : Ret Tryz.prog 80 #[.int .i64 64] w fun v w' => ∃ A c, v = .slice A 64 c ∧ RdS w' A (Iv .u64 (Un p64)) ∧ Ext w w' := by
 refine L_80 64 w _ ?_
 refine ⟨fun A n c x2 w1 => ∃ p : Nat, x2 = p ∧ 2 ≤ p ∧ p ≤ 312 ∧ n = (p64.filter (· < p)).length ∧ OX 127 .u64 w1 w.heap.size A c (Un (p64.filter (· < p))) ∧ Fro w.heap.size w w1, fun _ _ _ x2 _ => (312 - x2).toNat,
  ⟨2, rfl, by omega, by omega, by decide, OX.nil _ _ _ _, Mod.refl _ _⟩, ?_⟩
 rintro A n c x2 w1 ⟨p, rfl, h2, hp, rfl, o1, f1⟩
 refine ⟨fun hlt => ?_, fun hge => ?_⟩
 ·have hp2 : p < 312 := by
   rcases Nat.lt_or_ge p 312 with h | h
   ·exact h
   ·obtain rfl : p = 312 := by omega
    rw [prime_end.1] at hlt; exact absurd hlt (by decide)
  obtain ⟨hl, hstep⟩ := prime_fact ⟨p, hp2⟩ h2
  simp only at hl hstep
  generalize hl0 : p64.filter (· < p) = out at *
  have hmem : ∀ q ∈ out, q ∈ p64 := fun q hq => by rw [← hl0] at hq; exact (List.mem_filter.1 hq).1
  have hq1 : IntKind.u64.wrap ((p : Int) + 1) = ((p + 1 : Nat) : Int) := by rw [w64_eq]; omega
  rw [hq1]
  refine ⟨fun q x3 w2 => w2 = w1 ∧ ∃ i : Nat, x3 = i ∧ i ≤ out.length ∧ q = (out.take i).all (fun q => p % q != 0), fun _ x3 _ => (out.length - x3).toNat, ⟨rfl, 0, rfl, by omega, by simp⟩, ?_⟩
  rintro q x3 w2 ⟨rfl, i, rfl, hi, rfl⟩
  refine ⟨fun hlt3 => ?_, fun hge3 => ?_⟩
  ·have hi2 : i < out.length := by omega
   have q3 : IntKind.i64.wrap ((i : Int) + 1) = ((i + 1 : Nat) : Int) := wrap_i64 (by omega) (by omega)
   rw [q3]
   have htk : out.take (i + 1) = out.take i ++ [out[i]] := by rw [List.take_succ_eq_append_getElem hi2]
   refine ⟨fun hq => ?_, fun hq => ?_⟩
   ·obtain ⟨b, o, hA, hc⟩ := o1.at (i := i) (x := ((out[i] : Nat) : Int)) (Un_get (by simp [hi2]))
    have hpos := prime_pos _ (hmem _ (List.getElem_mem hi2))
    refine ⟨b, o, hA, by omega, by omega, _, by rw [Int.toNat_natCast, Nat.mul_one]; exact hc, by omega, ⟨rfl, i + 1, rfl, by omega, ?_⟩, by dsimp only; omega⟩
    rw [htk, List.all_append, hq, Bool.true_and, tmod_nat]
    simp only [List.all_cons, List.all_nil, Bool.and_true]
    cases hz : p % out[i] with
    | zero => rfl
    | succ k => simp; omega
   ·refine ⟨⟨rfl, i + 1, rfl, by omega, ?_⟩, by dsimp only; omega⟩
    rw [htk, List.all_append, hq]; rfl
  ·obtain rfl : i = out.length := by omega
   rw [List.take_length]
   refine ⟨fun hq => ?_, fun hq => ?_⟩
   ·rw [if_pos hq] at hstep
    intro b2 w3 e1 e2
    refine o1.push f1.size (by simp [Un]) e1 e2 (by omega) (by decide) fun A2 c2 w4 o4 f4 => ⟨⟨p + 1, rfl, by omega, by omega, by rw [hstep, List.length_append]; rfl, ?_, f1.trans f4⟩, by dsimp only; omega⟩
    rw [hstep]
    have : Un (out ++ [p]) = Un out ++ [(p : Int)] := by simp [Un]
    rw [this]
    exact o4
   ·rw [if_neg (by rw [hq]; decide)] at hstep
    exact ⟨⟨p + 1, rfl, by omega, by omega, by rw [hstep], by rw [hstep]; exact o1, f1⟩, by dsimp only; omega⟩
 ·have hp3 : p = 312 := by
   rcases Nat.lt_or_ge p 312 with h | h
   ·exact absurd (by have := (prime_fact ⟨p, h⟩ h2).1; simp only at this; omega) hge
   ·omega
  subst hp3
  rw [prime_end.2] at o1
  rw [prime_end.1]
  exact ⟨A, c, rfl, o1.rd, f1.ext⟩
def cStep (p r : Int) (k : Nat) : Int :=
 let x := IntKind.u64.wrap (r + iShl .u64 1 k)
 let mid := IntKind.u64.wrap (tHi (tLo x x) x + tLo (tHi x x) x)
 let top := if mid < tHi (tLo x x) x then IntKind.u64.wrap (tHi (tHi x x) x + 1) else tHi (tHi x x) x
 let want := IntKind.u64.wrap (p * 4294967296)
 if top = 0 ∧ (mid < want ∨ mid = want ∧ tLo (tLo x x) x = 0) then x else r
def sStep (p r : Int) (k : Nat) : Int :=
 let x := IntKind.u64.wrap (r + iShl .u64 1 k)
 if tHi x x < p ∨ tHi x x = p ∧ tLo x x = 0 then x else r
theorem cube_fact : ∀ t : Fin 64, ∀ k : Fin 35, cStep ((p64.getD t.val 0 : Nat) : Int) ((c64.getD t.val 0 / 2 ^ (k.val + 1) * 2 ^ (k.val + 1) : Nat) : Int) k.val = ((c64.getD t.val 0 / 2 ^ k.val * 2 ^ k.val : Nat) : Int) := by decide +kernel
theorem cube_end : ∀ t : Fin 64, c64.getD t.val 0 / 2 ^ 35 * 2 ^ 35 = 0 ∧ IntKind.u32.wrap (((c64.getD t.val 0 : Nat) : Int).tmod 4294967296) = kL.getD t.val 0 := by decide +kernel
theorem square_fact : ∀ t : Fin 8, ∀ k : Fin 36, sStep ((p64.getD t.val 0 : Nat) : Int) ((q8.getD t.val 0 / 2 ^ (k.val + 1) * 2 ^ (k.val + 1) : Nat) : Int) k.val = ((q8.getD t.val 0 / 2 ^ k.val * 2 ^ k.val : Nat) : Int) := by decide +kernel
theorem square_end : ∀ t : Fin 8, q8.getD t.val 0 / 2 ^ 36 * 2 ^ 36 = 0 ∧ IntKind.u32.wrap (((q8.getD t.val 0 : Nat) : Int).tmod 4294967296) = s0.l.getD t.val 0 := by decide +kernel
theorem cube_ok (w : World) {t : Nat} (ht : t < 64) : Ret Tryz.prog 81 #[.int .u64 ((p64.getD t 0 : Nat) : Int)] w fun v w' => v = .int .u32 (kL.getD t 0) ∧ w' = w := by
 have hf := cube_fact ⟨t, ht⟩
 obtain ⟨h0, he⟩ := cube_end ⟨t, ht⟩
 simp only at hf h0 he
 generalize p64.getD t 0 = p at *
 generalize c64.getD t 0 = R at *
 refine L_81 p w _ ?_
 refine ⟨fun x2 x3 w1 => w1 = w ∧ ∃ k : Nat, k ≤ 35 ∧ x3 = (k : Int) - 1 ∧ x2 = ((R / 2 ^ k * 2 ^ k : Nat) : Int), fun _ x3 _ => (x3 + 1).toNat, ⟨rfl, 35, by omega, rfl, by rw [h0]; rfl⟩, ?_⟩
 rintro x2 x3 w1 ⟨rfl, k, hk, rfl, rfl⟩
 refine ⟨fun hge => ?_, fun hlt => ?_⟩
 ·obtain ⟨k, rfl⟩ : ∃ j, k = j + 1 := ⟨k - 1, by omega⟩
  have hs := hf ⟨k, by omega⟩
  simp only at hs
  have ek : ((k + 1 : Nat) : Int) - 1 = (k : Int) := by omega
  rw [ek]
  generalize R / 2 ^ (k + 1) * 2 ^ (k + 1) = r at *
  generalize hx : IntKind.u64.wrap ((r : Int) + iShl .u64 1 (k : Int)) = x
  have hs' : (if (if IntKind.u64.wrap (tHi (tLo x x) x + tLo (tHi x x) x) < tHi (tLo x x) x then IntKind.u64.wrap (tHi (tHi x x) x + 1) else tHi (tHi x x) x) = 0 ∧
    (IntKind.u64.wrap (tHi (tLo x x) x + tLo (tHi x x) x) < IntKind.u64.wrap ((p : Int) * 4294967296) ∨ IntKind.u64.wrap (tHi (tLo x x) x + tLo (tHi x x) x) = IntKind.u64.wrap ((p : Int) * 4294967296) ∧ tLo (tLo x x) x = 0) then x else (r : Int)) = ((R / 2 ^ k * 2 ^ k : Nat) : Int) := by
   rw [← hs, ← hx]; rfl
  clear hs
  have q3 : IntKind.i64.wrap ((k : Int) - 1) = (k : Int) - 1 := wrap_i64 (by omega) (by omega)
  rw [q3]
  refine ⟨by omega, (times_ok w1 x x).mono ?_⟩
  rintro v w2 ⟨rfl, rfl⟩
  refine ⟨_, _, rfl, (times_ok w2 _ x).mono ?_⟩
  rintro v w3 ⟨rfl, rfl⟩
  refine ⟨_, _, rfl, (times_ok w3 _ x).mono ?_⟩
  rintro v w4 ⟨rfl, rfl⟩
  refine ⟨_, _, rfl, ?_⟩
  generalize IntKind.u64.wrap (tHi (tLo x x) x + tLo (tHi x x) x) = mid at *
  generalize IntKind.u64.wrap ((p : Int) * 4294967296) = want at *
  refine ⟨fun x11 w5 => w5 = w4 ∧ x11 = if mid < tHi (tLo x x) x then IntKind.u64.wrap (tHi (tHi x x) x + 1) else tHi (tHi x x) x, ?_, fun h => ⟨rfl, by rw [if_pos h]⟩, fun h => ⟨rfl, by rw [if_neg h]⟩⟩
  rintro x11 w5 ⟨rfl, hx11⟩
  rw [← hx11] at hs'
  have fin : ∀ y : Int, (if x11 = 0 ∧ (mid < want ∨ mid = want ∧ tLo (tLo x x) x = 0) then x else (r : Int)) = y →
    (w5 = w5 ∧ ∃ j : Nat, j ≤ 35 ∧ (k : Int) - 1 = (j : Int) - 1 ∧ y = ((R / 2 ^ j * 2 ^ j : Nat) : Int)) ∧ (((k : Int) - 1) + 1).toNat < ((k : Int) + 1).toNat := fun y hy => ⟨⟨rfl, k, by omega, rfl, by rw [← hy]; exact hs'⟩, by omega⟩
  refine ⟨fun h0 => ⟨fun h1 => fin _ (by rw [if_pos ⟨h0, .inl h1⟩]), fun h1 => ⟨fun h2 => ⟨fun h3 => fin _ (by rw [if_pos ⟨h0, .inr ⟨h2, h3⟩⟩]), fun h3 => fin _ (by rw [if_neg]; rintro ⟨_, h | ⟨_, h⟩⟩; exact h1 h; exact h3 h)⟩,
   fun h2 => fin _ (by rw [if_neg]; rintro ⟨_, h | ⟨h, _⟩⟩; exact h1 h; exact h2 h)⟩⟩, fun h0 => fin _ (by rw [if_neg]; rintro ⟨h, _⟩; exact h0 h)⟩
 ·obtain rfl : k = 0 := by omega
  exact ⟨by rw [← he]; simp, rfl⟩
theorem square_ok (w : World) {t : Nat} (ht : t < 8) : Ret Tryz.prog 82 #[.int .u64 ((p64.getD t 0 : Nat) : Int)] w fun v w' => v = .int .u32 (s0.l.getD t 0) ∧ w' = w := by
 have hf := square_fact ⟨t, ht⟩
 obtain ⟨h0, he⟩ := square_end ⟨t, ht⟩
 simp only at hf h0 he
 generalize p64.getD t 0 = p at *
 generalize q8.getD t 0 = R at *
 refine L_82 p w _ ?_
 refine ⟨fun x2 x3 w1 => w1 = w ∧ ∃ k : Nat, k ≤ 36 ∧ x3 = (k : Int) - 1 ∧ x2 = ((R / 2 ^ k * 2 ^ k : Nat) : Int), fun _ x3 _ => (x3 + 1).toNat, ⟨rfl, 36, by omega, rfl, by rw [h0]; rfl⟩, ?_⟩
 rintro x2 x3 w1 ⟨rfl, k, hk, rfl, rfl⟩
 refine ⟨fun hge => ?_, fun hlt => ?_⟩
 ·obtain ⟨k, rfl⟩ : ∃ j, k = j + 1 := ⟨k - 1, by omega⟩
  have hs := hf ⟨k, by omega⟩
  simp only at hs
  have ek : ((k + 1 : Nat) : Int) - 1 = (k : Int) := by omega
  rw [ek]
  generalize R / 2 ^ (k + 1) * 2 ^ (k + 1) = r at *
  generalize hx : IntKind.u64.wrap ((r : Int) + iShl .u64 1 (k : Int)) = x
  have hs' : (if tHi x x < (p : Int) ∨ tHi x x = (p : Int) ∧ tLo x x = 0 then x else (r : Int)) = ((R / 2 ^ k * 2 ^ k : Nat) : Int) := by
   rw [← hs, ← hx]; rfl
  clear hs
  have q3 : IntKind.i64.wrap ((k : Int) - 1) = (k : Int) - 1 := wrap_i64 (by omega) (by omega)
  rw [q3]
  refine ⟨by omega, (times_ok w1 x x).mono ?_⟩
  rintro v w2 ⟨rfl, rfl⟩
  refine ⟨_, _, rfl, ?_⟩
  have fin : ∀ y : Int, (if tHi x x < (p : Int) ∨ tHi x x = (p : Int) ∧ tLo x x = 0 then x else (r : Int)) = y →
    (w2 = w2 ∧ ∃ j : Nat, j ≤ 36 ∧ (k : Int) - 1 = (j : Int) - 1 ∧ y = ((R / 2 ^ j * 2 ^ j : Nat) : Int)) ∧ (((k : Int) - 1) + 1).toNat < ((k : Int) + 1).toNat := fun y hy => ⟨⟨rfl, k, by omega, rfl, by rw [← hy]; exact hs'⟩, by omega⟩
  refine ⟨fun h1 => fin _ (by rw [if_pos (.inl h1)]), fun h1 => ⟨fun h2 => ⟨fun h3 => fin _ (by rw [if_pos (.inr ⟨h2, h3⟩)]), fun h3 => fin _ (by rw [if_neg]; rintro (h | ⟨_, h⟩); exact h1 h; exact h3 h)⟩,
   fun h2 => fin _ (by rw [if_neg]; rintro (h | ⟨h, _⟩); exact h1 h; exact h2 h)⟩⟩
 ·obtain rfl : k = 0 := by omega
  exact ⟨by rw [← he]; simp, rfl⟩
end Go.Proofs.YtpkfdhlkknanmaaGreat
