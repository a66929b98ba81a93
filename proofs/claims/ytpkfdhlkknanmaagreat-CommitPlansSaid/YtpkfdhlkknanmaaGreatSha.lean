/-
 The digest, as a law on numbers; the program's words, their spreading, and a block's turn.
-/
import Derived.Test.YtpkfdhlkknanmaaGreatWord
import Derived.Test.YtpkfdhlkknanmaaGreatW1
set_option linter.all false
namespace Go.Proofs.YtpkfdhlkknanmaaGreat
open Go Go.RowKit Go.Proofs
structure S8 where
 a : Int
 b : Int
 c : Int
 d : Int
 e : Int
 f : Int
 g : Int
 h : Int
def S8.l (s : S8) : List Int := [s.a, s.b, s.c, s.d, s.e, s.f, s.g, s.h]
structure S8.Ok (s : S8) : Prop where
 a : R32 s.a
 b : R32 s.b
 c : R32 s.c
 d : R32 s.d
 e : R32 s.e
 f : R32 s.f
 g : R32 s.g
 h : R32 s.h
def big1 (e : Int) : Int := bXor .u32 (bXor .u32 (rotl 26 e) (rotl 21 e)) (rotl 7 e)
def big0 (a : Int) : Int := bXor .u32 (bXor .u32 (rotl 30 a) (rotl 19 a)) (rotl 10 a)
def chs (e f g : Int) : Int := bXor .u32 (bAnd .u32 e f) (bAnd .u32 (bXor .u32 4294967295 e) g)
def maj (a b c : Int) : Int := bXor .u32 (bXor .u32 (bAnd .u32 a b) (bAnd .u32 a c)) (bAnd .u32 b c)
def rndP (s : S8) (k w : Int) : Int := IntKind.u32.wrap (IntKind.u32.wrap (IntKind.u32.wrap (IntKind.u32.wrap (s.h + big1 s.e) + chs s.e s.f s.g) + k) + w)
def rndQ (s : S8) : Int := IntKind.u32.wrap (big0 s.a + maj s.a s.b s.c)
def rnd (s : S8) (k w : Int) : S8 := ⟨IntKind.u32.wrap (rndP s k w + rndQ s), s.a, s.b, s.c, IntKind.u32.wrap (s.d + rndP s k w), s.e, s.f, s.g⟩
theorem rnd_ok {s : S8} (h : s.Ok) (k w : Int) : (rnd s k w).Ok := ⟨R32_wrap _, h.a, h.b, h.c, R32_wrap _, h.e, h.f, h.g⟩
def sm1 (y : Int) : Int := bXor .u32 (bXor .u32 (rotl 15 y) (rotl 13 y)) (y / 1024)
def sm0 (x : Int) : Int := bXor .u32 (bXor .u32 (rotl 25 x) (rotl 14 x)) (x / 8)
def wd (l : List Int) (t : Nat) : Int := l.getD (4 * t) 0 * 16777216 + l.getD (4 * t + 1) 0 * 65536 + l.getD (4 * t + 2) 0 * 256 + l.getD (4 * t + 3) 0
def wv (l : List Int) (t : Nat) : Int :=
 if h : t < 16 then wd l t
 else IntKind.u32.wrap (IntKind.u32.wrap (IntKind.u32.wrap (sm1 (wv l (t - 2)) + wv l (t - 7)) + sm0 (wv l (t - 15))) + wv l (t - 16))
theorem wv_lo {l : List Int} {t : Nat} (h : t < 16) : wv l t = wd l t := by rw [wv, dif_pos h]
theorem wv_hi {l : List Int} {t : Nat} (h : ¬ t < 16) : wv l t = IntKind.u32.wrap (IntKind.u32.wrap (IntKind.u32.wrap (sm1 (wv l (t - 2)) + wv l (t - 7)) + sm0 (wv l (t - 15))) + wv l (t - 16)) := by rw [wv, dif_neg h]
def Bytes (l : List Int) : Prop := ∀ x ∈ l, R8 x
theorem Bytes.getD {l : List Int} (h : Bytes l) (i : Nat) : R8 (l.getD i 0) := by
 rw [List.getD_eq_getElem?_getD]
 cases hi : l[i]? with
 | none => exact ⟨by decide, by decide⟩
 | some x => exact h x (List.mem_of_getElem? hi)
theorem R32_wv {l : List Int} (h : Bytes l) (t : Nat) : R32 (wv l t) := by
 by_cases ht : t < 16
 ·rw [wv_lo ht]
  unfold wd
  have h1 := h.getD (4 * t); have h2 := h.getD (4 * t + 1); have h3 := h.getD (4 * t + 2); have h4 := h.getD (4 * t + 3)
  unfold R8 at *; unfold R32; omega
 ·rw [wv_hi ht]; exact R32_wrap _
def kL : List Int := [1116352408, 1899447441, 3049323471, 3921009573, 961987163, 1508970993, 2453635748, 2870763221, 3624381080, 310598401, 607225278, 1426881987, 1925078388, 2162078206, 2614888103, 3248222580, 3835390401, 4022224774, 264347078, 604807628, 770255983, 1249150122, 1555081692, 1996064986, 2554220882, 2821834349, 2952996808, 3210313671, 3336571891, 3584528711, 113926993, 338241895, 666307205, 773529912, 1294757372, 1396182291, 1695183700, 1986661051, 2177026350, 2456956037, 2730485921, 2820302411, 3259730800, 3345764771, 3516065817, 3600352804, 4094571909, 275423344, 430227734, 506948616, 659060556, 883997877, 958139571, 1322822218, 1537002063, 1747873779, 1955562222, 2024104815, 2227730452, 2361852424, 2428436474, 2756734187, 3204031479, 3329325298]
def s0 : S8 := ⟨1779033703, 3144134277, 1013904242, 2773480762, 1359893119, 2600822924, 528734635, 1541459225⟩
theorem s0_ok : s0.Ok := by refine ⟨?_, ?_, ?_, ?_, ?_, ?_, ?_, ?_⟩ <;> exact ⟨by decide, by decide⟩
def rnds (h : S8) (l : List Int) : Nat → S8
 | 0 => h
 | t + 1 => rnd (rnds h l t) (kL.getD t 0) (wv l t)
theorem rnds_ok {h : S8} (hh : h.Ok) (l : List Int) : ∀ t, (rnds h l t).Ok
 | 0 => hh
 | t + 1 => rnd_ok (rnds_ok hh l t) _ _
def addS (h x : S8) : S8 := ⟨IntKind.u32.wrap (h.a + x.a), IntKind.u32.wrap (h.b + x.b), IntKind.u32.wrap (h.c + x.c), IntKind.u32.wrap (h.d + x.d), IntKind.u32.wrap (h.e + x.e), IntKind.u32.wrap (h.f + x.f), IntKind.u32.wrap (h.g + x.g), IntKind.u32.wrap (h.h + x.h)⟩
theorem addS_ok (h x : S8) : (addS h x).Ok := ⟨R32_wrap _, R32_wrap _, R32_wrap _, R32_wrap _, R32_wrap _, R32_wrap _, R32_wrap _, R32_wrap _⟩
def blk (h : S8) (l : List Int) : S8 := addS h (rnds h l 64)
theorem blk_ok {h : S8} {l : List Int} : (blk h l).Ok := addS_ok _ _
theorem rotate_ok {w : World} {x k : Int} {n : Nat} (hx : R32 x) (hn : 1 ≤ n ∧ n < 32) (hk : bAnd .u64 (IntKind.u64.wrap k) 31 = n) :
  Ret Tryz.prog 118 #[.int .u32 x, .int .i64 k] w fun v w' => v = .int .u32 (rotl n x) ∧ w' = w := by
 refine L_118 x k w _ ?_
 have h2 : IntKind.u64.wrap (32 - (n : Int)) = ((32 - n : Nat) : Int) := by rw [w64_eq]; omega
 unfold S_118
 rw [hk, h2]
 exact ⟨by omega, by omega, by rw [rotl_or hx hn], rfl⟩
theorem turn_fact : ∀ n : Fin 32, 1 ≤ n.val → bAnd .u64 (IntKind.u64.wrap (IntKind.i64.wrap (0 - ((n.val : Nat) : Int).tmod 32))) 31 = ((32 - n.val : Nat) : Int) := by decide +kernel
theorem turn_ok {w : World} {x : Int} {n : Nat} (hx : R32 x) (hn : 1 ≤ n ∧ n < 32) : Ret Tryz.prog 121 #[.int .u32 x, .int .i64 n] w fun v w' => v = .int .u32 (rotl (32 - n) x) ∧ w' = w := by
 refine L_121 x n w _ ((rotate_ok hx (n := 32 - n) (by omega) (turn_fact ⟨n, hn.2⟩ hn.1)).mono ?_)
 rintro v w1 ⟨rfl, rfl⟩
 exact ⟨_, rfl, rfl, rfl⟩
theorem or8 {v x : Int} (hv : 0 ≤ v) (hv2 : v < 16777216) (hx : R8 x) : bOr .u32 (IntKind.u32.wrap (v * 2 ^ 8)) (IntKind.u32.wrap x) = v * 256 + x := by
 obtain ⟨n, rfl⟩ : ∃ n : Nat, v = n := ⟨v.toNat, by omega⟩
 obtain ⟨m, rfl⟩ : ∃ m : Nat, x = m := ⟨x.toNat, by have := hx.1; omega⟩
 have hm : m < 2 ^ 8 := by have := hx.2; omega
 have e1 : IntKind.u32.wrap ((n : Int) * 2 ^ 8) = ((2 ^ 8 * n : Nat) : Int) := by rw [w32_eq]; omega
 rw [e1, hx.r32.wrap, bOr_u32 (by omega) (by omega), ← Nat.two_pow_add_eq_or_of_lt hm]
 omega
theorem join_ok {w : World} {A : Option Addr} {c : Nat} {a0 a1 a2 a3 : Int} (hr : RdS w A (By [a0, a1, a2, a3])) (h0 : R8 a0) (h1 : R8 a1) (h2 : R8 a2) (h3 : R8 a3) :
  Ret Tryz.prog 123 #[.slice A 4 c] w fun v w' => v = .int .u32 (a0 * 16777216 + a1 * 65536 + a2 * 256 + a3) ∧ w' = w := by
 have hr' := hr
 obtain ⟨b, o, hA, hc0⟩ := hr.at (i := 0) (v := .int .u8 a0) rfl
 obtain ⟨_, _, hA1, hc1⟩ := hr.at (i := 1) (v := .int .u8 a1) rfl
 obtain ⟨_, _, hA2, hc2⟩ := hr.at (i := 2) (v := .int .u8 a2) rfl
 obtain ⟨_, _, hA3, hc3⟩ := hr.at (i := 3) (v := .int .u8 a3) rfl
 rw [hA] at hA1 hA2 hA3
 injection hA1 with hA1; injection hA1 with e1 e2; subst e1; subst e2
 injection hA2 with hA2; injection hA2 with e1 e2; subst e1; subst e2
 injection hA3 with hA3; injection hA3 with e1 e2; subst e1; subst e2
 unfold R8 at h0 h1 h2 h3
 refine L_123 A 4 c w _ ⟨fun x1 x2 w1 => w1 = w ∧ ((x2 = 0 ∧ x1 = 0) ∨ (x2 = 1 ∧ x1 = a0) ∨ (x2 = 2 ∧ x1 = a0 * 256 + a1) ∨ (x2 = 3 ∧ x1 = (a0 * 256 + a1) * 256 + a2) ∨ (x2 = 4 ∧ x1 = ((a0 * 256 + a1) * 256 + a2) * 256 + a3)), fun _ x2 _ => (4 - x2).toNat, ⟨rfl, .inl ⟨rfl, rfl⟩⟩, ?_⟩
 rintro x1 x2 w1 ⟨rfl, hI⟩
 refine ⟨fun hlt => ?_, fun hge => ?_⟩
 ·rcases hI with ⟨rfl, rfl⟩ | ⟨rfl, rfl⟩ | ⟨rfl, rfl⟩ | ⟨rfl, rfl⟩ | ⟨rfl, rfl⟩
  ·refine ⟨b, o, hA, by decide, by decide, a0, hc0, ?_, by dsimp only; decide⟩
   rw [or8 (by decide) (by decide) h0]
   exact ⟨rfl, .inr (.inl ⟨by decide, by omega⟩)⟩
  ·refine ⟨b, o, hA, by decide, by decide, a1, hc1, ?_, by dsimp only; decide⟩
   rw [or8 (by omega) (by omega) h1]
   exact ⟨rfl, .inr (.inr (.inl ⟨by decide, rfl⟩))⟩
  ·refine ⟨b, o, hA, by decide, by decide, a2, hc2, ?_, by dsimp only; decide⟩
   rw [or8 (by omega) (by omega) h2]
   exact ⟨rfl, .inr (.inr (.inr (.inl ⟨by decide, rfl⟩)))⟩
  ·refine ⟨b, o, hA, by decide, by decide, a3, hc3, ?_, by dsimp only; decide⟩
   rw [or8 (by omega) (by omega) h3]
   exact ⟨rfl, .inr (.inr (.inr (.inr ⟨by decide, rfl⟩)))⟩
  ·exact absurd hlt (by decide)
 ·rcases hI with ⟨rfl, _⟩ | ⟨rfl, _⟩ | ⟨rfl, _⟩ | ⟨rfl, _⟩ | ⟨rfl, rfl⟩
  ·exact absurd (by decide) hge
  ·exact absurd (by decide) hge
  ·exact absurd (by decide) hge
  ·exact absurd (by decide) hge
  ·exact ⟨by congr 1; omega, rfl⟩
theorem fdiv_nn {x : Int} (k : Nat) : Int.fdiv x (2 ^ k) = x / 2 ^ k := Int.fdiv_eq_ediv_of_nonneg _ (Int.le_of_lt (Int.pow_pos (by decide : (0 : Int) < 2)))
theorem get4 {l : List Int} {t : Nat} (h : 4 * t + 4 ≤ l.length) : (l.drop (4 * t)).take 4 = [l.getD (4 * t) 0, l.getD (4 * t + 1) 0, l.getD (4 * t + 2) 0, l.getD (4 * t + 3) 0] := by
 apply List.ext_getElem?
 intro i
 rw [List.getElem?_take]
 split
 ·rename_i hi
  rw [List.getElem?_drop]
  match i, hi with
  | 0, _ => simp [List.getD_eq_getElem?_getD, List.getElem?_eq_getElem (show 4 * t < l.length by omega)]
  | 1, _ => simp [List.getD_eq_getElem?_getD, List.getElem?_eq_getElem (show 4 * t + 1 < l.length by omega)]
  | 2, _ => simp [List.getD_eq_getElem?_getD, List.getElem?_eq_getElem (show 4 * t + 2 < l.length by omega)]
  | 3, _ => simp [List.getD_eq_getElem?_getD, List.getElem?_eq_getElem (show 4 * t + 3 < l.length by omega)]
 ·rw [List.getElem?_eq_none (by simp; omega)]
theorem map_range_of {u : List Int} {n : Nat} {f : Nat → Int} (hl : u.length = n) (h : ∀ j, j < n → u[j]? = some (f j)) : u = (List.range n).map f := by
 apply List.ext_getElem?
 intro i
 by_cases hi : i < n
 ·rw [h i hi]; simp [hi]
 ·rw [List.getElem?_eq_none (by omega), List.getElem?_eq_none (by simp; omega)]
theorem get_set {u : List Int} {i j : Nat} {x : Int} (hi : i < u.length) : (u.set i x)[j]? = if j = i then some x else u[j]? := by
 rw [List.getElem?_set]
 by_cases h : i = j
 ·subst h; simp [hi]
 ·rw [if_neg h, if_neg (fun e => h e.symm)]
theorem spread_ok {w : World} {A : Option Addr} {c : Nat} {l : List Int} (hl : l.length = 64) (hr : RdS w A (By l)) (h8 : Bytes l) (hc : 64 ≤ c) :
  Ret Tryz.prog 119 #[.slice A 64 c] w fun v w' => v = .agg (Iv .u32 ((List.range 64).map (wv l))).toArray ∧ Ext w w' := by
 refine L_119 A 64 c w _ ?_
 intro b1 w1 e1 e2 b2 w2 e3 e4
 have m1 : Ext w w1 := (Mod.refl _ _).alloc e2
 have m2 : Ext w1 w2 := (Mod.refl _ _).alloc e4
 have s1 := m1.size
 have hB1 : Blk w2 b1 189 (Iv .u32 (List.replicate 64 0)).toArray := by rw [Iv_replicate]; exact (Blk.new e1 e2).ext m2
 have hB2 : Blk w2 b2 189 (Iv .u32 (List.replicate 64 0)).toArray := by rw [Iv_replicate]; exact Blk.new e3 e4
 have hb1 : b1 < w1.heap.size := by rw [e2, e1]; simp
 refine ⟨fun x1 w3 => ∃ (i : Nat) (u : List Int), x1 = i ∧ i ≤ 64 ∧ u.length = 64 ∧ (∀ j, j < i → u[j]? = some (wv l j)) ∧ Blk w3 b2 189 (Iv .u32 u).toArray ∧ Blk w3 b1 189 (Iv .u32 (List.replicate 64 0)).toArray ∧ Fro w.heap.size w w3,
  fun x1 _ => (64 - x1).toNat, ⟨0, _, rfl, by omega, by simp, fun j hj => absurd hj (by omega), hB2, hB1, Mod.of_ext (m1.trans m2)⟩, ?_⟩
 rintro x1 w3 ⟨i, u, rfl, hi, hu, hv, hb2, hb1', m3⟩
 have hr3 : RdS w3 A (By l) := hr.ext m3.ext
 refine ⟨fun hlt => ⟨fun hlo => ?_, fun hhi => ?_⟩, fun hge => ?_⟩
 ·have q1 : IntKind.i64.wrap (4 * (i : Int)) = 4 * (i : Int) := wrap_i64 (by omega) (by omega)
  have q2 : IntKind.i64.wrap (4 * (i : Int) + 4) = 4 * (i : Int) + 4 := wrap_i64 (by omega) (by omega)
  have q3 : IntKind.i64.wrap ((i : Int) + 1) = ((i + 1 : Nat) : Int) := wrap_i64 (by omega) (by omega)
  rw [q1, q2, q3]
  refine ⟨by omega, by omega, by omega, by omega, ?_⟩
  intro A2 hA2
  have hn1 : (4 * (i : Int)).toNat = 4 * i := by omega
  have hn2 : (4 * (i : Int) + 4).toNat - 4 * i = 4 := by omega
  rw [hn1] at hA2 ⊢
  rw [hn2]
  have hr4 : RdS w3 A2 (By ([l.getD (4 * i) 0, l.getD (4 * i + 1) 0, l.getD (4 * i + 2) 0, l.getD (4 * i + 3) 0])) := by
   rw [← get4 (by omega), hA2]
   have := (hr3.cut (l := 4 * i) (m := c) (size := 1) (fun h => by omega)).take 4
   rw [Nat.mul_one, By_drop, By_take] at this
   exact this
  refine (join_ok hr4 (h8.getD _) (h8.getD _) (h8.getD _) (h8.getD _)).mono ?_
  rintro v w4 ⟨rfl, rfl⟩
  refine ⟨_, rfl, by omega, by omega, hb2.stv (by omega) fun w5 hb5 m5 => ⟨⟨i + 1, _, rfl, by omega, by simp [hu], fun j hj => ?_, hb5, hb1'.mod m5 (by omega), m3.trans (m5.mono fun k hk e => by omega)⟩, by dsimp only; omega⟩⟩
  rw [get_set (by omega)]
  split
  ·rename_i hji; rw [hji, wv_lo (by omega)]; rfl
  ·exact hv j (by omega)
 ·intro w6 e6
  have m6 : Ext w3 w6 := (Mod.refl _ _).drew e6
  have q1 : IntKind.i64.wrap ((i : Int) - 15) = ((i - 15 : Nat) : Int) := by rw [wrap_i64 (by omega) (by omega)]; omega
  have q2 : IntKind.i64.wrap ((i : Int) - 2) = ((i - 2 : Nat) : Int) := by rw [wrap_i64 (by omega) (by omega)]; omega
  have q7 : IntKind.i64.wrap ((i : Int) - 7) = ((i - 7 : Nat) : Int) := by rw [wrap_i64 (by omega) (by omega)]; omega
  have q16 : IntKind.i64.wrap ((i : Int) - 16) = ((i - 16 : Nat) : Int) := by rw [wrap_i64 (by omega) (by omega)]; omega
  have q3 : IntKind.i64.wrap ((i : Int) + 1) = ((i + 1 : Nat) : Int) := wrap_i64 (by omega) (by omega)
  rw [q1, q2, q7, q16, q3]
  have hhi' : ¬ i < 16 := by omega
  have r15 := R32_wv h8 (i - 15)
  have r2 := R32_wv h8 (i - 2)
  refine ⟨by omega, by omega, _, hb2.ldv (hv (i - 15) (by omega)), by omega, by omega, _, hb2.ldv (hv (i - 2) (by omega)), ?_⟩
  refine (turn_ok (n := 7) r15 (by omega)).mono ?_
  rintro v w7 ⟨rfl, rfl⟩
  refine ⟨_, rfl, (turn_ok (n := 18) r15 (by omega)).mono ?_⟩
  rintro v w8 ⟨rfl, rfl⟩
  refine ⟨_, rfl, (turn_ok (n := 17) r2 (by omega)).mono ?_⟩
  rintro v w9 ⟨rfl, rfl⟩
  refine ⟨_, rfl, (turn_ok (n := 19) r2 (by omega)).mono ?_⟩
  rintro v w10 ⟨rfl, rfl⟩
  refine ⟨_, rfl, ?_⟩
  intro w11 e11
  have m11 : Ext w10 w11 := (Mod.refl _ _).drew e11
  have hb10 := hb2.ext m6
  refine ⟨by omega, by omega, _, hb10.ldv (hv (i - 7) (by omega)), by omega, by omega, _, hb10.ldv (hv (i - 16) (by omega)), by omega, by omega, ?_⟩
  refine (hb10.ext m11).stv (by omega) fun w12 hb12 m12 => ⟨⟨i + 1, _, rfl, by omega, by simp [hu], fun j hj => ?_, hb12, ((hb1'.ext m6).ext m11).mod m12 (by omega), (Mod.ext (Mod.ext m3 m6) m11).trans (m12.mono fun k hk e => by omega)⟩, by dsimp only; omega⟩
  rw [get_set (by omega)]
  split
  ·rename_i hji
   rw [hji, fdiv_nn 10, fdiv_nn 3]
   exact congrArg some (wv_hi (l := l) (t := i) hhi').symm
  ·exact hv j (by omega)
 ·have hu64 := map_range_of hu (fun j hj => hv j (by omega))
  subst hu64
  exact out_ok (t1 := 189) (t2 := 189) hb2 hb1' (by simp) (by simp) (One_Iv _ _) fun w' m' => ⟨rfl, Fro.ext (m3.trans (m'.mono fun k hk e => by omega))⟩
theorem consts_ok (w : World) : Ret Tryz.prog 120 #[] w fun v w' => v = .agg (Iv .u32 kL).toArray ∧ Ext w w' := by
 refine L_120 w _ ?_
 intro b1 w1 e1 e2
 have hB : Blk w1 b1 189 (List.replicate 64 (.int .u32 0 : Value)).toArray := Blk.new e1 e2
 refine lay_ok hB (by rfl) (by simp) fun w2 hB2 m2 => ⟨Iv .u32 kL, rfl, hB2.range_all, rfl, Fro.ext (((Mod.refl _ _).alloc e2).trans (m2.mono fun k hk e => by omega))⟩
theorem first_ok (w : World) : Ret Tryz.prog 110 #[] w fun v w' => v = .agg (Iv .u32 s0.l).toArray ∧ Ext w w' := by
 refine L_110 w _ ?_
 intro b1 w1 e1 e2
 have hB : Blk w1 b1 162 (List.replicate 8 (.int .u32 0 : Value)).toArray := Blk.new e1 e2
 refine lay_ok hB (by rfl) (by simp) fun w2 hB2 m2 => ⟨Iv .u32 s0.l, rfl, hB2.range_all, rfl, Fro.ext (((Mod.refl _ _).alloc e2).trans (m2.mono fun k hk e => by omega))⟩
end Go.Proofs.YtpkfdhlkknanmaaGreat
