/-
 The document's own cipher: the stream, and bytes that are turned.
-/
import Derived.Test.YtpkfdhlkknanmaaGreatCip4
set_option linter.all false
namespace Go.Proofs.YtpkfdhlkknanmaaGreat
open Go Go.RowKit Go.Proofs
def ksf (key nonce : List Int) (ctr : Int) (j : Nat) : Int := (keyB key nonce (ctrN ctr (j / 64))).getD (j % 64) 0
def ksN (key nonce : List Int) (ctr : Int) (n : Nat) : List Int := (List.range n).map (ksf key nonce ctr)
theorem ksN_length (key nonce : List Int) (ctr : Int) (n : Nat) : (ksN key nonce ctr n).length = n := by simp [ksN]
theorem ksN_block (key nonce : List Int) (ctr : Int) (k : Nat) : ksN key nonce ctr (64 * (k + 1)) = ksN key nonce ctr (64 * k) ++ keyB key nonce (ctrN ctr k) := by
 refine list_ext_lt (n := 64 * (k + 1)) (ksN_length ..) (by rw [List.length_append, ksN_length, keyB_length]; omega) fun j hj => ?_
 unfold ksN
 rw [map_range_get hj]
 rcases Nat.lt_or_ge j (64 * k) with h | h
 ·rw [List.getElem?_append_left (by simpa using h), map_range_get h]
 ·rw [List.getElem?_append_right (by simpa using h)]
  have : j - ((List.range (64 * k)).map (ksf key nonce ctr)).length = j % 64 := by simp; omega
  rw [this, getD_get (l := keyB key nonce (ctrN ctr k)) (by rw [keyB_length]; omega)]
  unfold ksf
  have : j / 64 = k := by omega
  rw [this]
theorem stream_ok {w : World} {key nonce : List Int} {ctr : Int} {n : Nat} (hk : key.length = 32) (hn : nonce.length = 12) (k8 : Bytes key) (n8 : Bytes nonce) (hc : R32 ctr) (few : n ≤ 1048576) :
  Ret Tryz.prog 79 #[.agg (By key).toArray, .agg (By nonce).toArray, .int .u32 ctr, .int .i64 n] w fun v w' => ∃ A c, v = .slice A n c ∧ n ≤ c ∧ RdP (fun k => w.heap.size ≤ k) w' A (By (ksN key nonce ctr n)) ∧ Ext w w' := by
 refine L_79 (By key) (By nonce) ctr n w _ (by simp [hk]) (by simp [hn]) ?_
 intro b1 w1 e1 e2 b2 w2 e3 e4
 have m1 : Ext w w1 := (Mod.refl _ _).alloc e2
 have m2 : Ext w1 w2 := (Mod.refl _ _).alloc e4
 have s1 := m1.size; have s2 := m2.size
 have t1 : b1 < w1.heap.size := by rw [e2, e1]; simp
 have t2 : b2 < w2.heap.size := by rw [e4, e3]; simp
 have hB1 : Blk w2 b1 22 (By key).toArray := (Blk.new e1 e2).ext m2
 have hB2 : Blk w2 b2 130 (By nonce).toArray := Blk.new e3 e4
 refine ⟨fun h => absurd h (by omega), fun _ => ⟨fun h => absurd h (by omega), fun _ => ?_⟩⟩
 refine ⟨fun x3 A n1 c w3 => ∃ k : Nat, x3 = ctrN ctr k ∧ n1 = 64 * k ∧ 64 * k < n + 64 ∧ OX 5 .u8 w3 w2.heap.size A c (ksN key nonce ctr (64 * k)) ∧ Fro w2.heap.size w2 w3, fun _ _ n1 _ _ => n - n1, ⟨0, rfl, rfl, by omega, OX.nil _ _ _ _, Mod.refl _ _⟩, ?_⟩
 rintro x3 A1 n1 c1 w3 ⟨k, rfl, rfl, hk64, o3, f3⟩
 refine ⟨fun hlt => ?_, fun hge => ?_⟩
 ·refine ⟨By key, by simp [hk], (hB1.mod f3 (by omega)).range_all, By nonce, by simp [hn], (hB2.mod f3 (by omega)).range_all, (refkeyblock_ok hk hn k8 n8 (ctrN_ok hc k)).mono ?_⟩
  rintro v w4 ⟨rfl, m4⟩
  refine ⟨_, rfl, by simp [keyB_length], ?_⟩
  intro b3 w5 e5 e6
  have m5 : Ext w4 w5 := (Mod.refl _ _).alloc e6
  have hB3 : Blk w5 b3 160 (List.replicate 64 (.int .u8 0 : Value)).toArray := Blk.new e5 e6
  refine ⟨by simp [keyB_length], One_By _, lay_ok hB3 (by simp [keyB_length]) (by simp) fun w6 h6 m6 => ⟨by decide, by decide, by decide, by decide, ?_⟩⟩
  intro A2 hA2
  rw [cutA_zero] at hA2
  have s4 := m4.size; have s3 := f3.size; have s5 := m5.size; have s6 := m6.size
  have m36 : Mod (fun j => j = b3) w3 w6 := (Mod.of_ext (m4.trans m5)).trans m6
  have o6 : OX 5 .u8 w6 w2.heap.size A1 c1 (ksN key nonce ctr (64 * k)) := Own.ext o3 m36 fun b o e hb => by
   have := (Own.base o3 b o e).2; omega
  have f6 : Fro w2.heap.size w2 w6 := f3.trans (m36.mono fun j hj e => by omega)
  refine o6.app f6.size (ksN_length ..) (l2 := keyB key nonce (ctrN ctr k)) (by rw [keyB_length]) (.inr ⟨b3, 0, hA2, h6.range_all⟩) (by omega) (by decide) fun A3 c2 w7 o7 f7 => ?_
  rw [← ksN_block] at o7
  exact ⟨⟨k + 1, rfl, by omega, by omega, o7, f6.trans f7⟩, by dsimp only; omega⟩
 ·have hcap := Own.cap o3
  rw [ksN_length] at hcap
  refine ⟨by decide, by omega, by omega, by omega, ?_⟩
  intro A4 hA4
  rw [cutA_zero] at hA4
  have ht : (ksN key nonce ctr (64 * k)).take n = ksN key nonce ctr n := by
   refine list_ext_lt (n := n) (by rw [List.length_take, ksN_length]; omega) (ksN_length ..) fun j hj => ?_
   rw [List.getElem?_take_of_lt hj]
   unfold ksN
   rw [map_range_get (by omega), map_range_get hj]
  refine ⟨A4, c1 - 0, by congr 1, by omega, ?_, Fro.ext ((Mod.of_ext (m1.trans m2)).trans (f3.mono fun j hj hb => by omega))⟩
  rw [hA4, ← ht, ← By_take]
  exact (o3.rdp.take n).mono fun j _ hj => by have := hj.1; omega
theorem refturn_ok {w : World} {key nonce b : List Int} {ctr : Int} {A : Option Addr} {n c : Nat} (hk : key.length = 32) (hn : nonce.length = 12) (k8 : Bytes key) (n8 : Bytes nonce) (hc : R32 ctr) (hl : b.length = n) (hr : RdS w A (By b)) (few : n ≤ 1048576) :
  Ret Tryz.prog 65 #[.agg (By key).toArray, .agg (By nonce).toArray, .int .u32 ctr, .slice A n c] w fun v w' => ∃ A' c', v = .slice A' n c' ∧ OX 5 .u8 w' w.heap.size A' c' (turnB key nonce ctr b) ∧ Ext w w' := by
 refine L_65 (By key) (By nonce) ctr A n c w _ (by simp [hk]) (by simp [hn]) ?_
 intro b1 w1 e1 e2 b2 w2 e3 e4
 have m1 : Ext w w1 := (Mod.refl _ _).alloc e2
 have m2 : Ext w1 w2 := (Mod.refl _ _).alloc e4
 have s1 := m1.size; have s2 := m2.size
 have hB1 : Blk w2 b1 22 (By key).toArray := (Blk.new e1 e2).ext m2
 have hB2 : Blk w2 b2 130 (By nonce).toArray := Blk.new e3 e4
 refine ⟨By key, by simp [hk], hB1.range_all, By nonce, by simp [hn], hB2.range_all, ?_⟩
 rw [imin_le (x := (n : Int)) (y := 1048576) (by omega)]
 refine (stream_ok hk hn k8 n8 hc few).mono ?_
 rintro v w3 ⟨A2, c2, rfl, hc2, hs, m3⟩
 refine ⟨A2, n, c2, rfl, ?_⟩
 have s3 := m3.size
 refine (OX.nil 5 .u8 w3 w3.heap.size).app (Nat.le_refl _) rfl hl (((hr.ext m1).ext m2).ext m3) (by omega) (by decide) fun A3 c3 w4 o4 f4 => ?_
 rw [List.nil_append] at o4
 have r1 : RdP (fun k => k < w3.heap.size) w4 A (By b) := (((hr.ext m1).ext m2).ext m3).lt.mod f4 fun k hk h => by omega
 have r2 : RdP (fun k => k < w3.heap.size) w4 A2 (By (ksN key nonce ctr n)) := hs.rd.lt.mod f4 fun k hk h => by omega
 have fr4 : Fro w.heap.size w w4 := (Mod.of_ext ((m1.trans m2).trans m3)).trans (f4.mono fun k hk h => by omega)
 refine ⟨fun x2 w5 => ∃ (i : Nat) (u : List Int), x2 = i ∧ i ≤ n ∧ u.length = n ∧ (∀ j, j < n → u[j]? = some (if j < i then tb key nonce ctr b j else b.getD j 0)) ∧ OX 5 .u8 w5 w3.heap.size A3 c3 u ∧
   RdP (fun k => k < w3.heap.size) w5 A (By b) ∧ RdP (fun k => k < w3.heap.size) w5 A2 (By (ksN key nonce ctr n)) ∧ Fro w.heap.size w w5, fun x2 _ => (n - x2).toNat,
  ⟨0, b, rfl, by omega, hl, fun j hj => by rw [if_neg (by omega)]; exact getD_get (by omega), o4, r1, r2, fr4⟩, ?_⟩
 rintro x2 w5 ⟨i, u, rfl, hi, hu, hv, o5, q1, q2, f5⟩
 refine ⟨fun hlt => ?_, fun hge => ?_⟩
 ·intro w6 e6
  have m6 : Ext w5 w6 := (Mod.refl _ _).drew e6
  have q4 : IntKind.i64.wrap ((i : Int) + 1) = ((i + 1 : Nat) : Int) := wrap_i64 (by omega) (by omega)
  rw [q4]
  obtain ⟨c1, c2', hA, hr1⟩ := RdS.row (k := .u8) q1.rd (by omega)
  obtain ⟨c4, c5, hA2, hr2⟩ := RdS.row (k := .u8) q2.rd (by rw [ksN_length]; omega)
  obtain ⟨g, hA3, hgb, _, hs1, hs2, hs3⟩ := (o5.ext m6).setAt (i := i) (by omega)
  have hks : (ksN key nonce ctr n)[i]? = some (ksf key nonce ctr i) := map_range_get (by omega)
  refine ⟨c1, c2', hA, by omega, by omega, _, hr1 i _ (getD_get (by omega)), c4, c5, hA2, by omega, by omega, _, hr2 i _ hks, g, 0, hA3, by omega, by omega, hs1, hs2, ?_⟩
  intro w7 e7
  obtain ⟨o7, m7⟩ := hs3 _ w7 e7
  refine ⟨⟨i + 1, _, rfl, by omega, by simp [hu], fun j hj => ?_, o7, (q1.ext m6).mod m7 (fun k hk e => by omega), (q2.ext m6).mod m7 (fun k hk e => by omega), (Mod.ext f5 m6).trans (m7.mono fun k hk e => by omega)⟩, by dsimp only; omega⟩
  rw [get_set (by omega)]
  split
  ·rename_i hj2; rw [hj2, if_pos (by omega)]; rfl
  ·rw [hv j hj]
   congr 1
   by_cases hj3 : j < i
   ·rw [if_pos hj3, if_pos (by omega)]
   ·rw [if_neg hj3, if_neg (by omega)]
 ·obtain rfl : i = n := by omega
  have hue : u = turnB key nonce ctr b := by
   refine (map_range_of hu fun j hj => ?_).trans (by rw [turnB, hl])
   rw [hv j hj, if_pos (by omega)]
  subst hue
  exact ⟨A3, c3, by rw [Nat.zero_add], o5.mono (by omega), f5.ext⟩
end Go.Proofs.YtpkfdhlkknanmaaGreat
