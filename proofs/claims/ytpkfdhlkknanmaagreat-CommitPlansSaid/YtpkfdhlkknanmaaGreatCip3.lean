/-
 The cipher: bytes are turned; nonces.
-/
import Derived.Test.YtpkfdhlkknanmaaGreatCip2
set_option linter.all false
namespace Go.Proofs.YtpkfdhlkknanmaaGreat
open Go Go.RowKit Go.Proofs
def ctrN (c : Int) : Nat → Int
 | 0 => c
 | n + 1 => IntKind.u32.wrap (ctrN c n + 1)
theorem ctrN_ok {c : Int} (h : R32 c) : ∀ n, R32 (ctrN c n)
 | 0 => h
 | n + 1 => R32_wrap _
def tb (key nonce : List Int) (ctr : Int) (b : List Int) (j : Nat) : Int := bXor .u8 (b.getD j 0) ((keyB key nonce (ctrN ctr (j / 64))).getD (j % 64) 0)
def turnB (key nonce : List Int) (ctr : Int) (b : List Int) : List Int := (List.range b.length).map (tb key nonce ctr b)
theorem turnB_length (key nonce : List Int) (ctr : Int) (b : List Int) : (turnB key nonce ctr b).length = b.length := by simp [turnB]
theorem R8_xor (x y : Int) : R8 (bXor .u8 x y) := R8_wrap _
theorem turnB_bytes (key nonce : List Int) (ctr : Int) (b : List Int) : Bytes (turnB key nonce ctr b) := by
 intro x hx
 simp only [turnB, List.mem_map] at hx
 obtain ⟨i, _, rfl⟩ := hx
 exact R8_xor _ _
theorem imin_le {x y : Int} (h : x ≤ y) : imin x y = x := if_neg (by omega)
theorem imin_ge {x y : Int} (h : y ≤ x) : imin x y = y := by unfold imin; split <;> omega
theorem turnbytes_ok {w : World} {key nonce b : List Int} {ctr : Int} {A : Option Addr} {n c : Nat} (hk : key.length = 32) (hn : nonce.length = 12) (k8 : Bytes key) (n8 : Bytes nonce) (hc : R32 ctr) (hl : b.length = n) (hr : RdS w A (By b)) (few : n ≤ 1048576) :
  Ret Tryz.prog 75 #[.agg (By key).toArray, .agg (By nonce).toArray, .int .u32 ctr, .slice A n c] w fun v w' => ∃ A' c', v = .slice A' n c' ∧ OX 5 .u8 w' w.heap.size A' c' (turnB key nonce ctr b) ∧ Ext w w' := by
 refine L_75 (By key) (By nonce) ctr A n c w _ (by simp [hk]) (by simp [hn]) ?_
 intro b1 w1 e1 e2 b2 w2 e3 e4
 have m1 : Ext w w1 := (Mod.refl _ _).alloc e2
 have m2 : Ext w1 w2 := (Mod.refl _ _).alloc e4
 have s1 := m1.size; have s2 := m2.size
 have t1 : b1 < w1.heap.size := by rw [e2, e1]; simp
 have t2 : b2 < w2.heap.size := by rw [e4, e3]; simp
 have hB1 : Blk w2 b1 22 (By key).toArray := (Blk.new e1 e2).ext m2
 have hB2 : Blk w2 b2 130 (By nonce).toArray := Blk.new e3 e4
 refine (OX.nil 5 .u8 w2 w2.heap.size).app (Nat.le_refl _) rfl hl ((hr.ext m1).ext m2) (by omega) (by decide) fun A2 c2 w3 o3 f3 => ?_
 rw [List.nil_append] at o3
 have hcap := Own.cap o3
 have fr3 : Fro w.heap.size w w3 := (Mod.of_ext (m1.trans m2)).trans (f3.mono fun k _ hk => by omega)
 have s3 := f3.size
 have hmin : imin (((0 + n : Nat) : Int)) 1048576 = (n : Int) := by rw [imin_le (by omega)]; omega
 rw [hmin]
 refine ⟨fun x2 x3 w4 => ∃ (k : Nat) (u : List Int), x3 = ((64 * k : Nat) : Int) ∧ x2 = ctrN ctr k ∧ 64 * k < n + 64 ∧ u.length = n ∧ (∀ j, j < n → u[j]? = some (if j < 64 * k then tb key nonce ctr b j else b.getD j 0)) ∧ OX 5 .u8 w4 w2.heap.size A2 c2 u ∧
   Blk w4 b1 22 (By key).toArray ∧ Blk w4 b2 130 (By nonce).toArray ∧ Fro w.heap.size w w4 ∧ w2.heap.size ≤ w4.heap.size, fun _ x3 _ => (n - x3).toNat,
  ⟨0, b, rfl, rfl, by omega, hl, fun j hj => by rw [if_neg (by omega)]; exact getD_get (by omega), o3, hB1.mod f3 (by omega), hB2.mod f3 (by omega), fr3, s3⟩, ?_⟩
 rintro x2 x3 w4 ⟨k, u, rfl, rfl, hk64, hu, hv, o4, g1, g2, fr4, s4⟩
 refine ⟨fun hlt => ?_, fun hge => ?_⟩
 ·refine ⟨By key, by simp [hk], g1.range_all, By nonce, by simp [hn], g2.range_all, (keyblock_ok hk hn k8 n8 (ctrN_ok hc k)).mono ?_⟩
  rintro v w5 ⟨rfl, m5⟩
  refine ⟨_, rfl, by simp [keyB_length], ?_⟩
  intro b3 w6 e5 e6
  have m6 : Ext w5 w6 := (Mod.refl _ _).alloc e6
  have s5 := m5.size; have s6 := m6.size
  have hB3 : Blk w6 b3 160 (List.replicate 64 (.int .u8 0 : Value)).toArray := Blk.new e5 e6
  refine ⟨by simp [keyB_length], One_By _, lay_ok hB3 (by simp [keyB_length]) (by simp) fun w7 h7 m7 => ?_⟩
  have q1 : IntKind.i64.wrap (((64 * k : Nat) : Int) + 64) = ((64 * (k + 1) : Nat) : Int) := by rw [wrap_i64 (by omega) (by omega)]; omega
  have q2 : imin (((64 * (k + 1) : Nat) : Int)) (((0 + n : Nat) : Int)) = ((min (64 * (k + 1)) n : Nat) : Int) := by
   rcases Nat.le_total (64 * (k + 1)) n with h | h
   ·rw [imin_le (by omega)]; omega
   ·rw [imin_ge (by omega)]; omega
  rw [q1, q2]
  refine ⟨by omega, by omega, by omega, by omega, ?_⟩
  intro A3 _
  have hcnt : (((min (64 * (k + 1)) n : Nat) : Int)).toNat - (((64 * k : Nat) : Int)).toNat = min 64 (n - 64 * k) := by omega
  rw [hcnt]
  obtain ⟨g, hA2, hgb, _⟩ := o4.setAt (i := 0) (by omega)
  have hgl := (Own.base o4 g 0 hA2).2
  have m47 : Mod (fun j => j = b3) w4 w7 := (Mod.of_ext (m5.trans m6)).trans m7
  have g3lt := h7.lt
  have s7 := m7.size
  refine ⟨fun x4 w8 => ∃ (i : Nat) (u : List Int), x4 = i ∧ i ≤ min 64 (n - 64 * k) ∧ u.length = n ∧ (∀ j, j < n → u[j]? = some (if j < 64 * k + i then tb key nonce ctr b j else b.getD j 0)) ∧ OX 5 .u8 w8 w2.heap.size A2 c2 u ∧
    Blk w8 b3 160 (By (keyB key nonce (ctrN ctr k))).toArray ∧ Blk w8 b1 22 (By key).toArray ∧ Blk w8 b2 130 (By nonce).toArray ∧ Fro w.heap.size w w8 ∧ w7.heap.size ≤ w8.heap.size, fun x4 _ => (64 - x4).toNat,
   ⟨0, u, rfl, by omega, hu, fun j hj => hv j hj, ?_, h7, g1.mod m47 (by omega), g2.mod m47 (by omega), fr4.trans (m47.mono fun k hk e => by omega), Nat.le_refl _⟩, ?_⟩
  ·exact Own.ext o4 m47 fun b0 o0 e0 hb0 => by rw [hA2] at e0; injection e0 with e0; injection e0 with e0; omega
  rintro x4 w8 ⟨i, u', rfl, hi, hu', hv', o8, g3, g1', g2', fr8, s8⟩
  refine ⟨fun hlt2 => ?_, fun hge2 => ?_⟩
  ·intro w9 e9
   have m9 : Ext w8 w9 := (Mod.refl _ _).drew e9
   have q3 : IntKind.i64.wrap (((64 * k : Nat) : Int) + (i : Int)) = ((64 * k + i : Nat) : Int) := by rw [wrap_i64 (by omega) (by omega)]; omega
   have q4 : IntKind.i64.wrap ((i : Int) + 1) = ((i + 1 : Nat) : Int) := wrap_i64 (by omega) (by omega)
   rw [q3, q4]
   have hjn : 64 * k + i < n := by omega
   obtain ⟨g', hA', _, hc', _⟩ := o8.setAt (i := 64 * k + i) (by omega)
   obtain ⟨g'', hA'', _, _, hs1, hs2, hs3⟩ := (o8.ext m9).setAt (i := 64 * k + i) (by omega)
   obtain rfl : g' = g := by rw [hA2] at hA'; injection hA' with hA'; injection hA' with hA'; exact hA'.symm
   obtain rfl : g'' = g' := by rw [hA2] at hA''; injection hA'' with hA''; injection hA'' with hA''; exact hA''.symm
   have hx5 := hv' (64 * k + i) hjn
   rw [if_neg (by omega)] at hx5
   refine ⟨g'', 0, hA2, by omega, by omega, _, hc' _ hx5, by omega, by omega, _, g3.ldv (getD_get (by rw [keyB_length]; omega)), by omega, by omega, hs1, hs2, ?_⟩
   intro w10 e10
   obtain ⟨o10, m10⟩ := hs3 _ w10 e10
   refine ⟨⟨i + 1, _, rfl, by omega, by simp [hu'], fun j hj => ?_, o10, (g3.ext m9).mod m10 (by omega), (g1'.ext m9).mod m10 (by omega), (g2'.ext m9).mod m10 (by omega), (Mod.ext fr8 m9).trans (m10.mono fun k hk e => by omega), Nat.le_trans s8 (Nat.le_trans m9.size m10.size)⟩, by dsimp only; omega⟩
   rw [get_set (by omega)]
   split
   ·rename_i hj2
    rw [hj2, if_pos (by omega)]
    unfold tb
    have d1 : (64 * k + i) / 64 = k := by omega
    have d2 : (64 * k + i) % 64 = i := by omega
    rw [d1, d2]
   ·rw [hv' j hj]
    congr 1
    by_cases hj3 : j < 64 * k + i
    ·rw [if_pos hj3, if_pos (by omega)]
    ·rw [if_neg hj3, if_neg (by omega)]
  ·have hi2 : i = min 64 (n - 64 * k) := by omega
   refine ⟨⟨k + 1, u', rfl, rfl, by omega, hu', fun j hj => ?_, o8, g1', g2', fr8, by omega⟩, by dsimp only; omega⟩
   rw [hv' j hj]
   congr 1
   by_cases hj3 : j < 64 * k + i
   ·rw [if_pos hj3, if_pos (by omega)]
   ·rw [if_neg hj3, if_neg (by omega)]
 ·have hk2 : n ≤ 64 * k := by omega
  have hue : u = turnB key nonce ctr b := by
   refine (map_range_of hu fun j hj => ?_).trans (by rw [turnB, hl])
   rw [hv j hj, if_pos (by omega)]
  subst hue
  refine ⟨A2, c2, by rw [Nat.zero_add], o4.mono (by omega), fr4.ext⟩
def nb (e x : Int) (i : Nat) : Int := if i < 4 then IntKind.u8.wrap (iShr .u32 e ((8 * i : Nat) : Int)) else IntKind.u8.wrap (iShr .u64 x ((8 * (i - 4) : Nat) : Int))
def nonceB (e x : Int) : List Int := (List.range 12).map (nb e x)
theorem nonceB_length (e x : Int) : (nonceB e x).length = 12 := by simp [nonceB]
theorem nonceB_bytes (e x : Int) : Bytes (nonceB e x) := by
 intro y hy
 simp only [nonceB, List.mem_map] at hy
 obtain ⟨i, _, rfl⟩ := hy
 unfold nb
 split <;> exact R8_wrap _
theorem nonce_ok (w : World) (e x : Int) : Ret Tryz.prog 76 #[.int .u32 e, .int .u64 x] w fun v w' => v = .agg (By (nonceB e x)).toArray ∧ Ext w w' := by
 refine L_76 e x w _ ?_
 intro b1 w1 e1 e2 b2 w2 e3 e4
 have m1 : Ext w w1 := (Mod.refl _ _).alloc e2
 have m2 : Ext w1 w2 := (Mod.refl _ _).alloc e4
 have s1 := m1.size
 have t1 : b1 < w1.heap.size := by rw [e2, e1]; simp
 have hB1 : Blk w2 b1 130 (List.replicate 12 (.int .u8 0 : Value)).toArray := (Blk.new e1 e2).ext m2
 have hB2 : Blk w2 b2 130 (Iv .u8 (List.replicate 12 0)).toArray := by rw [Iv_replicate]; exact Blk.new e3 e4
 refine ⟨fun x3 w3 => ∃ (i : Nat) (u : List Int), x3 = i ∧ i ≤ 12 ∧ u.length = 12 ∧ (∀ j, j < i → u[j]? = some (nb e x j)) ∧ Blk w3 b2 130 (Iv .u8 u).toArray ∧ Blk w3 b1 130 (List.replicate 12 (.int .u8 0 : Value)).toArray ∧ Fro w.heap.size w w3, fun x3 _ => (12 - x3).toNat,
  ⟨0, _, rfl, by omega, by simp, fun j hj => absurd hj (by omega), hB2, hB1, Mod.of_ext (m1.trans m2)⟩, ?_⟩
 rintro x3 w3 ⟨i, u, rfl, hi, hu, hv, g2, g1, f3⟩
 have q4 : IntKind.i64.wrap ((i : Int) + 1) = ((i + 1 : Nat) : Int) ∨ i = 12 := by
  rcases Nat.lt_or_ge i 12 with h | h
  ·exact .inl (wrap_i64 (by omega) (by omega))
  ·exact .inr (by omega)
 refine ⟨fun hlt => ⟨fun hlo => ?_, fun hhi => ?_⟩, fun hge => ?_⟩
 ·have q1 : IntKind.i64.wrap (8 * (i : Int)) = ((8 * i : Nat) : Int) := by rw [wrap_i64 (by omega) (by omega)]; omega
  rw [q1, q4.resolve_right (by omega)]
  refine ⟨by omega, by omega, hlt, g2.stv (by omega) fun w4 h4 m4 => ⟨⟨i + 1, _, rfl, by omega, by simp [hu], fun j hj => ?_, h4, g1.mod m4 (by omega), f3.trans (m4.mono fun k hk e => by omega)⟩, by dsimp only; omega⟩⟩
  rw [get_set (by omega)]
  split
  ·rename_i hj2; rw [hj2]; unfold nb; rw [if_pos (by omega)]
  ·exact hv j (by omega)
 ·have q1 : IntKind.i64.wrap (8 * IntKind.i64.wrap ((i : Int) - 4)) = ((8 * (i - 4) : Nat) : Int) := by rw [wrap_i64 (x := (i : Int) - 4) (by omega) (by omega), wrap_i64 (by omega) (by omega)]; omega
  rw [q1, q4.resolve_right (by omega)]
  refine ⟨by omega, by omega, hlt, g2.stv (by omega) fun w4 h4 m4 => ⟨⟨i + 1, _, rfl, by omega, by simp [hu], fun j hj => ?_, h4, g1.mod m4 (by omega), f3.trans (m4.mono fun k hk e => by omega)⟩, by dsimp only; omega⟩⟩
  rw [get_set (by omega)]
  split
  ·rename_i hj2; rw [hj2]; unfold nb; rw [if_neg (by omega)]
  ·exact hv j (by omega)
 ·obtain rfl : i = 12 := by omega
  have hue := map_range_of hu hv
  subst hue
  exact out_ok (t1 := 130) (t2 := 130) g2 g1 (by simp) (by simp) (One_Iv _ _) fun w' m' => ⟨rfl, Fro.ext (f3.trans (m'.mono fun k hk e => by omega))⟩
theorem refnonce_ok (w : World) (e x : Int) : Ret Tryz.prog 66 #[.int .u32 e, .int .u64 x] w fun v w' => v = .agg (By (nonceB e x)).toArray ∧ Ext w w' := by
 refine L_66 e x w _ ?_
 intro b1 w1 e1 e2 b2 w2 e3 e4
 have m1 : Ext w w1 := (Mod.refl _ _).alloc e2
 have m2 : Ext w1 w2 := (Mod.refl _ _).alloc e4
 have s1 := m1.size
 have t1 : b1 < w1.heap.size := by rw [e2, e1]; simp
 have hB1 : Blk w2 b1 130 (List.replicate 12 (.int .u8 0 : Value)).toArray := (Blk.new e1 e2).ext m2
 have hB2 : Blk w2 b2 130 (Iv .u8 (List.replicate 12 0)).toArray := by rw [Iv_replicate]; exact Blk.new e3 e4
 refine ⟨fun x3 w3 => ∃ (i : Nat) (u : List Int), x3 = i ∧ i ≤ 4 ∧ u.length = 12 ∧ (∀ j, j < i → u[j]? = some (nb e x j)) ∧ Blk w3 b2 130 (Iv .u8 u).toArray ∧ Blk w3 b1 130 (List.replicate 12 (.int .u8 0 : Value)).toArray ∧ Fro w.heap.size w w3, fun x3 _ => (12 - x3).toNat,
  ⟨0, _, rfl, by omega, by simp, fun j hj => absurd hj (by omega), hB2, hB1, Mod.of_ext (m1.trans m2)⟩, ?_⟩
 rintro x3 w3 ⟨i, u, rfl, hi, hu, hv, g2, g1, f3⟩
 refine ⟨fun hlt => ?_, fun hge => ?_⟩
 ·have q1 : IntKind.i64.wrap (8 * (i : Int)) = ((8 * i : Nat) : Int) := by rw [wrap_i64 (by omega) (by omega)]; omega
  have q4 : IntKind.i64.wrap ((i : Int) + 1) = ((i + 1 : Nat) : Int) := wrap_i64 (by omega) (by omega)
  rw [q1, q4]
  refine ⟨by omega, by omega, by omega, g2.stv (by omega) fun w4 h4 m4 => ⟨⟨i + 1, _, rfl, by omega, by simp [hu], fun j hj => ?_, h4, g1.mod m4 (by omega), f3.trans (m4.mono fun k hk e => by omega)⟩, by dsimp only; omega⟩⟩
  rw [get_set (by omega)]
  split
  ·rename_i hj2; rw [hj2]; unfold nb; rw [if_pos (by omega)]
  ·exact hv j (by omega)
 ·obtain rfl : i = 4 := by omega
  refine ⟨fun x3 w3 => ∃ (i : Nat) (u : List Int), x3 = i ∧ i ≤ 8 ∧ u.length = 12 ∧ (∀ j, j < 4 + i → u[j]? = some (nb e x j)) ∧ Blk w3 b2 130 (Iv .u8 u).toArray ∧ Blk w3 b1 130 (List.replicate 12 (.int .u8 0 : Value)).toArray ∧ Fro w.heap.size w w3, fun x3 _ => (12 - x3).toNat,
   ⟨0, u, rfl, by omega, hu, hv, g2, g1, f3⟩, ?_⟩
  rintro x4 w5 ⟨i, u2, rfl, hi2, hu2, hv2, k2, k1, f5⟩
  refine ⟨fun hlt => ?_, fun hge2 => ?_⟩
  ·have q1 : IntKind.i64.wrap (8 * (i : Int)) = ((8 * i : Nat) : Int) := by rw [wrap_i64 (by omega) (by omega)]; omega
   have q2 : IntKind.i64.wrap (4 + (i : Int)) = ((4 + i : Nat) : Int) := by rw [wrap_i64 (by omega) (by omega)]; omega
   have q4 : IntKind.i64.wrap ((i : Int) + 1) = ((i + 1 : Nat) : Int) := wrap_i64 (by omega) (by omega)
   rw [q1, q2, q4]
   refine ⟨by omega, by omega, by omega, k2.stv (by omega) fun w4 h4 m4 => ⟨⟨i + 1, _, rfl, by omega, by simp [hu2], fun j hj => ?_, h4, k1.mod m4 (by omega), f5.trans (m4.mono fun k hk e => by omega)⟩, by dsimp only; omega⟩⟩
   rw [get_set (by omega)]
   split
   ·rename_i hj2; rw [hj2]; unfold nb; rw [if_neg (by omega), show 4 + i - 4 = i by omega]
   ·exact hv2 j (by omega)
  ·obtain rfl : i = 8 := by omega
   have hue := map_range_of hu2 (fun j hj => hv2 j (by omega))
   subst hue
   exact out_ok (t1 := 130) (t2 := 130) k2 k1 (by simp) (by simp) (One_Iv _ _) fun w' m' => ⟨rfl, Fro.ext (f5.trans (m'.mono fun k hk e => by omega))⟩
end Go.Proofs.YtpkfdhlkknanmaaGreat
