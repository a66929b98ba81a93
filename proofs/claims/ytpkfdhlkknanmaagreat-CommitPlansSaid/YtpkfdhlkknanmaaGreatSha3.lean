/-
 The program's digest: what is written, padded, and summed up.
-/
import Derived.Test.YtpkfdhlkknanmaaGreatSha2
set_option linter.all false
namespace Go.Proofs.YtpkfdhlkknanmaaGreat
open Go Go.RowKit Go.Proofs
def tn (l : List Int) : Nat → S8
 | 0 => s0
 | k + 1 => blk (tn l k) ((l.drop (64 * k)).take 64)
theorem tn_ok (l : List Int) : ∀ k, (tn l k).Ok
 | 0 => s0_ok
 | k + 1 => blk_ok
theorem tn_append {l m : List Int} : ∀ {k : Nat}, 64 * k ≤ l.length → tn (l ++ m) k = tn l k
 | 0, _ => rfl
 | k + 1, h => by
  have e : ((l ++ m).drop (64 * k)).take 64 = (l.drop (64 * k)).take 64 := by
   rw [List.drop_append_of_le_length (by omega), List.take_append_of_le_length (by rw [List.length_drop]; omega)]
  rw [tn, tn, tn_append (by omega), e]
def padZ (n : Nat) : Nat := (64 - (n + 9) % 64) % 64
def lb (n i : Nat) : Int := IntKind.u8.wrap (iShr .u64 (IntKind.u64.wrap (8 * (n : Int))) ((8 * (7 - i) : Nat) : Int))
def padL (n : Nat) : List Int := 128 :: List.replicate (padZ n) 0 ++ (List.range 8).map (lb n)
theorem padL_length (n : Nat) : (padL n).length = padZ n + 9 := by simp [padL]
theorem padL_bytes (n : Nat) : Bytes (padL n) := by
 intro x hx
 simp only [padL, List.cons_append, List.mem_cons, List.mem_append, List.mem_map, List.mem_replicate] at hx
 rcases hx with rfl | ⟨_, rfl⟩ | ⟨i, _, rfl⟩
 ·exact ⟨by decide, by decide⟩
 ·exact ⟨by decide, by decide⟩
 ·exact R8_wrap _
def dg (h : S8) (i : Nat) : Int := IntKind.u8.wrap (iShr .u32 (h.l.getD (i / 4) 0) ((24 - 8 * (i % 4) : Nat) : Int))
def shaL (l : List Int) : List Int := (List.range 32).map (dg (tn (l ++ padL l.length) ((l.length + padZ l.length + 9) / 64)))
theorem shaL_length (l : List Int) : (shaL l).length = 32 := by simp [shaL]
theorem shaL_bytes (l : List Int) : Bytes (shaL l) := by
 intro x hx
 simp only [shaL, List.mem_map] at hx
 obtain ⟨i, _, rfl⟩ := hx
 exact R8_wrap _
structure StOf (w : World) (d : List Value) (A : Option Addr) (n c : Nat) (x : Int) (txt : List Int) : Prop where
 h : ∃ h : S8, d = Iv .u32 h.l ∧ (64 ≤ txt.length → h = tn txt (txt.length / 64))
 x : x = txt.length
 n : n = txt.length % 64
 rd : RdS w A (By (txt.drop (64 * (txt.length / 64))))
theorem StOf.ext {w w' : World} {d : List Value} {A : Option Addr} {n c : Nat} {x : Int} {txt : List Int} (h : StOf w d A n c x txt) (hm : Ext w w') : StOf w' d A n c x txt := ⟨h.h, h.x, h.n, h.rd.ext hm⟩
theorem Blk.pre {w : World} {g t : Nat} {a b : List Value} (h : Blk w g t (a ++ b).toArray) : w.rangeAt g 0 a := fun j v hj => by
 have := h.range_all j v (by rw [List.getElem?_append_left (List.getElem?_eq_some_iff.1 hj).1]; exact hj)
 exact this
theorem One_st {h : S8} {A : Option Addr} {n c : Nat} {x : Int} : One (Iv .u32 h.l ++ ([.slice A n c, .int .u64 x] : List Value)) := by
 intro v hv
 rcases List.mem_append.1 hv with hv | hv
 ·exact One_Iv _ _ v hv
 ·simp only [List.mem_cons, List.not_mem_nil, or_false] at hv
  rcases hv with rfl | rfl <;> rfl
theorem Own.cap {w : World} {base e size n c : Nat} {A : Option Addr} {xs : List Value} (h : Own w base e size A n c xs) : n ≤ c := by
 rcases h.2 with ⟨e1, _⟩ | ⟨g, cap, cur, e1, _, _, hnc, _⟩
 ·injection e1 with _ e2 e3; omega
 ·injection e1 with _ e2 e3; omega
theorem write_ok {w : World} {d : List Value} {A B : Option Addr} {n c m c2 : Nat} {x : Int} {txt l2 : List Int} (hs : StOf w d A n c x txt) (hl : l2.length = m) (hr : RdS w B (By l2)) (h8 : Bytes txt) (h8' : Bytes l2)
  (few : txt.length + l2.length ≤ 1000000) : Ret Tryz.prog 97 #[.agg (d ++ ([.slice A n c, .int .u64 x] : List Value)).toArray, .slice B m c2] w fun v w' =>
   ∃ d' A' n' c' x', v = .agg (d' ++ ([.slice A' n' c', .int .u64 x'] : List Value)).toArray ∧ d'.length = 8 ∧ StOf w' d' A' n' c' x' (txt ++ l2) ∧ RdP (fun k => w.heap.size ≤ k) w' A' (By ((txt ++ l2).drop (64 * ((txt ++ l2).length / 64)))) ∧ Ext w w' := by
 obtain ⟨⟨h, rfl, hh⟩, rfl, hn, hrd⟩ := hs
 have hd8 : (Iv .u32 h.l).length = 8 := rfl
 refine L_97 (Iv .u32 h.l) A n c txt.length B m c2 w _ rfl ?_
 intro b1 w1 e1 e2 b2 w2 e3 e4
 have m1 : Ext w w1 := (Mod.refl _ _).alloc e2
 have m2 : Ext w1 w2 := (Mod.refl _ _).alloc e4
 have s1 := m1.size; have s2 := m2.size
 have t1 : b1 < w1.heap.size := by rw [e2, e1]; simp
 have hB1 : Blk w2 b1 164 (Iv .u32 h.l ++ ([.slice A n c, .int .u64 txt.length] : List Value)).toArray := (Blk.new e1 e2).ext m2
 have hB2 : Blk w2 b2 164 ((List.replicate 8 (.int .u32 0 : Value)) ++ ([.slice none 0 0, .int .u64 0] : List Value)).toArray := Blk.new e3 e4
 have hB2l : ((List.replicate 8 (.int .u32 0 : Value)) ++ ([.slice none 0 0, .int .u64 0] : List Value)).length = 10 := by simp
 generalize (List.replicate 8 (.int .u32 0 : Value)) ++ ([.slice none 0 0, .int .u64 0] : List Value) = z10 at *
 refine ⟨fun w3 => Blk w3 b1 164 (Iv .u32 (tn txt (txt.length / 64)).l ++ ([.slice A n c, .int .u64 txt.length] : List Value)).toArray ∧ Blk w3 b2 164 z10.toArray ∧ Fro w.heap.size w w3, ?_, ?_⟩
 ·rintro w3 ⟨g1, g2, f3⟩
  refine ⟨txt.length, by rw [g1.cell]; rfl, by rw [g1.cell]; rfl, g1.frozen _, ?_⟩
  intro w4 e5
  have q1 : IntKind.u64.wrap ((txt.length : Int) + IntKind.u64.wrap (m : Int)) = ((txt ++ l2).length : Int) := by rw [w64_eq, w64_eq, List.length_append]; omega
  rw [q1] at e5
  have k1 : Blk w4 b1 164 (Iv .u32 (tn txt (txt.length / 64)).l ++ ([.slice A n c, .int .u64 (txt ++ l2).length] : List Value)).toArray := by
   have := g1.set e5
   rw [List.setIfInBounds_toArray] at this
   exact this
  have m4 : Mod (fun j => j = b1) w3 w4 := (Mod.refl _ _).set (.inr rfl) e5
  have f4 : Fro w.heap.size w w4 := f3.trans (m4.mono fun k hk e => by omega)
  have k2 := g2.mod m4 (by omega)
  have hl1 := k1.lt; have hl2 := k2.lt
  refine ⟨A, n, c, by rw [k1.cell]; rfl, ?_⟩
  have hrest : (txt.drop (64 * (txt.length / 64))).length = n := by rw [List.length_drop, hn]; omega
  refine (OX.nil 5 .u8 w4 w4.heap.size).app (by omega) rfl hrest (hrd.ext f4.ext) (by omega) (by decide) fun A4 c4 w5 o5 f5 => ?_
  rw [List.nil_append] at o5
  refine o5.app f5.size (by omega) hl ((hr.ext f4.ext).ext f5.ext) (by omega) (by decide) fun A5 c5 w6 o6 f6 => ?_
  have m46 : Ext w4 w6 := Fro.ext (f5.trans f6)
  have full : txt.drop (64 * (txt.length / 64)) ++ l2 = (txt ++ l2).drop (64 * (txt.length / 64)) := by rw [List.drop_append_of_le_length (by omega)]
  rw [full] at o6
  have hcap := Own.cap o6
  have hlen : ((txt ++ l2).drop (64 * (txt.length / 64))).length = 0 + n + m := by rw [← full, List.length_append]; omega
  have b8 : Bytes (txt ++ l2) := fun x hx => (List.mem_append.1 hx).elim (h8 x) (h8' x)
  refine ⟨fun A6 n4 c6 w7 => ∃ q : Nat, 64 * q ≤ (txt ++ l2).length ∧ n4 = (txt ++ l2).length - 64 * q ∧ n4 ≤ c6 ∧ RdP (fun k => k ≠ b1 ∧ k ≠ b2 ∧ w.heap.size ≤ k) w7 A6 (By ((txt ++ l2).drop (64 * q))) ∧
    Blk w7 b1 164 (Iv .u32 (tn (txt ++ l2) q).l ++ ([.slice A n c, .int .u64 (txt ++ l2).length] : List Value)).toArray ∧ Blk w7 b2 164 z10.toArray ∧ Fro w.heap.size w w7, fun _ n4 _ _ => n4,
   ⟨txt.length / 64, by rw [List.length_append]; omega, by rw [List.length_append]; omega, by omega, o6.rdp.mono fun k _ hk => by have := hk.1; exact ⟨by omega, by omega, by omega⟩, ?_, k2.ext m46, Mod.ext f4 m46⟩, ?_⟩
  ·rw [tn_append (by omega)]; exact k1.ext m46
  rintro A6 n4 c6 w7 ⟨q, hq, rfl, hc6, hr6, j1, j2, f7⟩
  refine ⟨fun hge => ?_, fun hlt => ?_⟩
  ·intro w8 e8
   have m8 : Ext w7 w8 := (Mod.refl _ _).drew e8
   refine ⟨Iv .u32 (tn (txt ++ l2) q).l, rfl, j1.pre, by decide, by decide, by omega, by omega, ?_⟩
   intro A7 hA7
   rw [cutA_zero] at hA7
   subst hA7
   have hblk : (((txt ++ l2).drop (64 * q)).take 64).length = 64 := by rw [List.length_take, List.length_drop]; omega
   refine (block_ok (l := ((txt ++ l2).drop (64 * q)).take 64) (tn_ok _ q) hblk (by rw [← By_take]; exact (hr6.ext m8).rd.take 64) (fun x hx => b8 x (List.mem_of_mem_drop (List.mem_of_mem_take hx))) (by omega)).mono ?_
   rintro v w9 ⟨rfl, m9⟩
   have j9 := (j1.ext m8).ext m9
   refine ⟨_, rfl, rfl, rfl, One_Iv _ _, j9.there (by simp [S8.len]), ?_⟩
   intro w10 e10
   have hS := Blk.sets (t := 164) (Iv .u32 (blk (tn (txt ++ l2) q) (((txt ++ l2).drop (64 * q)).take 64)).l) 0 w9 _ j9 (by simp [S8.len])
   rw [← e10] at hS
   have m10 : Mod (fun j => j = b1) w9 w10 := (Mod.refl _ _).sets (.inr rfl) e10
   refine ⟨by decide, by omega, by omega, by omega, ?_⟩
   intro A8 hA8
   refine ⟨⟨q + 1, by omega, by omega, by omega, ?_, hS, ((j2.ext m8).ext m9).mod m10 (by have := j2.lt; omega), (Mod.ext (Mod.ext f7 m8) m9).trans (m10.mono fun k hk e => by omega)⟩, by dsimp only; omega⟩
   rw [hA8]
   have h1 := ((hr6.ext m8).ext m9).cut (l := 64) (m := c6) (size := 1) (fun e => by
    rw [By_drop, List.drop_drop]
    have : ((txt ++ l2).drop (64 * q + 64 * 1)) = [] := List.drop_eq_nil_of_le (by omega)
    rw [this]; rfl)
   rw [By_drop, List.drop_drop] at h1
   exact h1.mod m10 fun k hk e => hk.1 e
  ·have hq2 : q = (txt ++ l2).length / 64 := by omega
   refine ⟨by rw [j1.cell]; rfl, j1.frozen _, ?_⟩
   intro w11 e11
   have j11 := j1.set e11
   rw [List.setIfInBounds_toArray] at j11
   have m11 : Mod (fun j => j = b1) w7 w11 := (Mod.refl _ _).set (.inr rfl) e11
   have j11' : Blk w11 b1 164 (Iv .u32 (tn (txt ++ l2) q).l ++ ([.slice A6 ((txt ++ l2).length - 64 * q) c6, .int .u64 (txt ++ l2).length] : List Value)).toArray := j11
   clear j11
   refine ⟨Iv .u32 (tn (txt ++ l2) q).l, A6, _, c6, _, rfl, j11'.range_all, rfl, One_st, ?_⟩
   refine lay_ok (j2.mod m11 (by have := j2.lt; omega)) (by rfl) hB2l fun w12 j12 m12 => ?_
   refine ⟨Iv .u32 (tn (txt ++ l2) q).l, A6, _, c6, _, rfl, j12.range_all, _, A6, _, c6, _, rfl, rfl, ⟨⟨_, rfl, fun _ => by rw [hq2]⟩, rfl, by omega, ?_⟩, ?_, ?_⟩
   ·rw [← hq2]
    exact ((hr6.mod m11 fun k hk e => hk.1 e).mod m12 fun k hk e => hk.2.1 e).rd
   ·rw [← hq2]
    exact ((hr6.mod m11 fun k hk e => hk.1 e).mod m12 fun k hk e => hk.2.1 e).mono fun k _ hk => hk.2.2
   ·exact Fro.ext ((f7.trans (m11.mono fun k hk e => by omega)).trans (m12.mono fun k hk e => by omega))
 ·refine ⟨txt.length, by rw [hB1.cell]; rfl, fun hlt => ⟨A, n, c, by rw [hB1.cell]; rfl, txt.length, by rw [hB1.cell]; rfl, fun _ => ?_, fun hne => ?_⟩, fun hge => ?_⟩
  ·refine (first_ok w2).mono ?_
   rintro v w13 ⟨rfl, m13⟩
   have g13 := hB1.ext m13
   refine ⟨_, rfl, rfl, rfl, One_Iv _ _, g13.there (by simp [S8.len]), ?_⟩
   intro w14 e14
   have hS := Blk.sets (t := 164) (Iv .u32 s0.l) 0 w13 _ g13 (by simp [S8.len])
   rw [← e14] at hS
   have m14 : Mod (fun j => j = b1) w13 w14 := (Mod.refl _ _).sets (.inr rfl) e14
   have q0 : txt.length / 64 = 0 := by omega
   rw [q0]
   exact ⟨hS, (hB2.ext m13).mod m14 (by omega), (Mod.of_ext ((m1.trans m2).trans m13)).trans (m14.mono fun k hk e => by omega)⟩
  ·exfalso
   rw [wrap_i64 (by omega) (by omega)] at hne
   omega
  ·rw [← hh (by omega)]
   exact ⟨hB1, hB2, Mod.of_ext (m1.trans m2)⟩
end Go.Proofs.YtpkfdhlkknanmaaGreat
