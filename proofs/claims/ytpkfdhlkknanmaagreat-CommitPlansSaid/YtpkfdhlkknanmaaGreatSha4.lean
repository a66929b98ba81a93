/-
 The program's digest: Sum.
-/
import Derived.Test.YtpkfdhlkknanmaaGreatSha3
set_option linter.all false
namespace Go.Proofs.YtpkfdhlkknanmaaGreat
open Go Go.RowKit Go.Proofs
theorem tmod_nat (a b : Nat) : (a : Int).tmod (b : Int) = ((a % b : Nat) : Int) := by
 rw [Int.tmod_eq_emod_of_nonneg (by omega)]; rfl
theorem tdiv_nat (a b : Nat) : (a : Int).tdiv (b : Int) = ((a / b : Nat) : Int) := by
 rw [Int.tdiv_eq_ediv_of_nonneg (by omega)]; rfl
theorem range_snoc (n : Nat) (f : Nat → Int) : (List.range (n + 1)).map f = (List.range n).map f ++ [f n] := by rw [List.range_succ]; simp
theorem stsum_ok {w : World} {d : List Value} {A : Option Addr} {n c : Nat} {x : Int} {txt : List Int} (hs : StOf w d A n c x txt) (h8 : Bytes txt) (few : txt.length ≤ 900000) :
  Ret Tryz.prog 98 #[.agg (d ++ ([.slice A n c, .int .u64 x] : List Value)).toArray] w fun v w' => v = .agg (By (shaL txt)).toArray ∧ Ext w w' := by
 have hs' := hs
 obtain ⟨⟨h, rfl, hh⟩, rfl, hn, hrd⟩ := hs
 refine L_98 (Iv .u32 h.l) A n c txt.length w _ rfl ?_
 intro b1 w1 e1 e2 b2 w2 e3 e4 b3 w3 e5 e6
 have m1 : Ext w w1 := (Mod.refl _ _).alloc e2
 have m2 : Ext w1 w2 := (Mod.refl _ _).alloc e4
 have m3 : Ext w2 w3 := (Mod.refl _ _).alloc e6
 have s1 := m1.size; have s2 := m2.size
 have t1 : b1 < w1.heap.size := by rw [e2, e1]; simp
 have t2 : b2 < w2.heap.size := by rw [e4, e3]; simp
 have t3 : b3 < w3.heap.size := by rw [e6, e5]; simp
 have hB1 : Blk w3 b1 164 (Iv .u32 h.l ++ ([.slice A n c, .int .u64 txt.length] : List Value)).toArray := ((Blk.new e1 e2).ext m2).ext m3
 have hB2 : Blk w3 b2 22 (List.replicate 32 (.int .u8 0 : Value)).toArray := (Blk.new e3 e4).ext m3
 have hO : OX 5 .u8 w3 b3 (some ⟨b3, 0, none⟩) 1 [128] := Own.new (cs := Iv .u8 [128]) (by rfl) (by decide) (Nat.le_refl _) (Blk.new e5 e6)
 have f3 : Fro w.heap.size w w3 := Mod.of_ext ((m1.trans m2).trans m3)
 refine ⟨fun A2 n2 c2 w4 => ∃ j : Nat, n2 = 1 + j ∧ j ≤ padZ txt.length ∧ OX 5 .u8 w4 b3 A2 c2 (128 :: List.replicate j 0) ∧ b3 ≤ w4.heap.size ∧ Fro b3 w3 w4, fun _ n2 _ _ => 64 - n2, ⟨0, rfl, by omega, hO, by omega, Mod.refl _ _⟩, ?_⟩
 rintro A2 n2 c2 w4 ⟨j, rfl, hj, o4, hb4, f4⟩
 have g1 := hB1.mod f4 (by omega)
 refine ⟨A, n, c, by rw [g1.cell]; rfl, ?_⟩
 have hpz : padZ txt.length ≤ 63 := by unfold padZ; omega
 have q1 : (IntKind.i64.wrap (IntKind.i64.wrap ((n : Int) + ((1 + j : Nat) : Int)) + 8)).tmod 64 = (((n + j + 9) % 64 : Nat) : Int) := by
  rw [wrap_i64 (x := (n : Int) + ((1 + j : Nat) : Int)) (by omega) (by omega), wrap_i64 (by omega) (by omega)]
  have : (n : Int) + ((1 + j : Nat) : Int) + 8 = ((n + j + 9 : Nat) : Int) := by omega
  rw [this]; exact tmod_nat _ 64
 rw [q1]
 refine ⟨fun hne => ?_, fun heq => ?_⟩
 ·have hj2 : j + 1 ≤ padZ txt.length := by unfold padZ at *; omega
  intro b4 w5 e7 e8
  refine o4.push (by omega) (by simp; omega) e7 e8 (by omega) (by decide) fun A5 c5 w6 o6 f6 => ⟨⟨j + 1, by omega, hj2, ?_, by have := f6.size; omega, f4.trans f6⟩, by dsimp only; omega⟩
  rw [List.replicate_succ', ← List.cons_append]
  exact o6
 ·obtain rfl : j = padZ txt.length := by unfold padZ at *; omega
  have hsz4 := f4.size
  refine ⟨fun A5 n4 c5 x2 w7 => ∃ i : Nat, x2 = i ∧ i ≤ 8 ∧ n4 = 1 + padZ txt.length + i ∧ OX 5 .u8 w7 b3 A5 c5 (128 :: List.replicate (padZ txt.length) 0 ++ (List.range i).map (lb txt.length)) ∧ b3 ≤ w7.heap.size ∧ Fro b3 w3 w7, fun _ _ _ x2 _ => (8 - x2).toNat,
   ⟨0, rfl, by omega, rfl, by simpa using o4, hb4, f4⟩, ?_⟩
  rintro A5 n4 c5 x2 w7 ⟨i, rfl, hi, rfl, o7, hb7, f7⟩
  have g7 := hB1.mod f7 (by omega)
  refine ⟨fun hlt => ?_, fun hge => ?_⟩
  ·have q2 : IntKind.i64.wrap (8 * IntKind.i64.wrap (7 - (i : Int))) = ((8 * (7 - i) : Nat) : Int) := by
    rw [wrap_i64 (x := 7 - (i : Int)) (by omega) (by omega), wrap_i64 (by omega) (by omega)]; omega
   have q3 : IntKind.i64.wrap ((i : Int) + 1) = ((i + 1 : Nat) : Int) := wrap_i64 (by omega) (by omega)
   rw [q2, q3]
   refine ⟨txt.length, by rw [g7.cell]; rfl, by omega, ?_⟩
   intro b5 w8 e9 e10
   refine o7.push (by omega) (by simp; omega) e9 e10 (by omega) (by decide) fun A6 c6 w9 o9 f9 => ⟨⟨i + 1, rfl, by omega, by omega, ?_, by have := f9.size; omega, f7.trans f9⟩, by dsimp only; omega⟩
   rw [range_snoc, ← List.append_assoc]
   exact o9
  ·obtain rfl : i = 8 := by omega
   have o7' : OX 5 .u8 w7 b3 A5 c5 (padL txt.length) := o7
   have hSt : StOf w7 (Iv .u32 h.l) A n c txt.length txt := by
    have mm : Ext w w7 := Fro.ext (f3.trans (f7.mono fun k hk hb => by omega))
    exact hs'.ext mm
   have hp9 := padL_length txt.length
   refine ⟨Iv .u32 h.l, A, n, c, txt.length, rfl, g7.range_all, ?_⟩
   refine (write_ok hSt (l2 := padL txt.length) (by omega) o7'.rd h8 (padL_bytes _) (by omega)).mono ?_
   rintro v w10 ⟨d', A8, n6, c8, x5, rfl, hd8, hst, _, m10⟩
   refine ⟨d', A8, n6, c8, x5, rfl, hd8, ?_⟩
   obtain ⟨⟨h2, rfl, hh2⟩, rfl, hn6, _⟩ := hst
   have hlen : (txt ++ padL txt.length).length = txt.length + padZ txt.length + 9 := by rw [List.length_append]; omega
   have h2e := hh2 (by rw [hlen]; unfold padZ; omega)
   rw [hlen] at h2e
   intro b6 w11 e11 e12
   have m11 : Ext w10 w11 := (Mod.refl _ _).alloc e12
   have hB6 : Blk w11 b6 164 ((List.replicate 8 (.int .u32 0 : Value)) ++ ([.slice none 0 0, .int .u64 0] : List Value)).toArray := Blk.new e11 e12
   have s10 := m10.size
   have hsz7 := f7.size
   refine ⟨rfl, One_st, lay_ok hB6 (by rfl) (by simp) fun w12 h12 m12 => ?_⟩
   intro b7 w13 e13 e14
   have m13 : Ext w12 w13 := (Mod.refl _ _).alloc e14
   have t6 := h12.lt
   have hB7 : Blk w13 b7 22 (Iv .u8 (List.replicate 32 0)).toArray := by rw [Iv_replicate]; exact Blk.new e13 e14
   have a713 : Mod (fun j => j = b6) w7 w13 := (Mod.of_ext (m10.trans m11) |>.trans m12).ext m13
   have hB2' : Blk w13 b2 22 (List.replicate 32 (.int .u8 0 : Value)).toArray := (hB2.mod f7 (by omega)).mod a713 (by have := g7.lt; omega)
   have f13 : Fro w.heap.size w w13 := (f3.trans (f7.mono fun k hk hb => by omega)).trans (a713.mono fun k hk e => by omega)
   have hB6' := h12.ext m13
   refine ⟨fun x6 w14 => ∃ (i : Nat) (u : List Int), x6 = i ∧ i ≤ 32 ∧ u.length = 32 ∧ (∀ j, j < i → u[j]? = some (dg h2 j)) ∧ Blk w14 b7 22 (Iv .u8 u).toArray ∧
     Blk w14 b6 164 (Iv .u32 h2.l ++ ([.slice A8 n6 c8, .int .u64 (txt ++ padL txt.length).length] : List Value)).toArray ∧ Blk w14 b2 22 (List.replicate 32 (.int .u8 0 : Value)).toArray ∧ Fro w.heap.size w w14, fun x6 _ => (32 - x6).toNat,
    ⟨0, _, rfl, by omega, by simp, fun j hj => absurd hj (by omega), hB7, hB6', hB2', f13⟩, ?_⟩
   rintro x6 w14 ⟨i, u, rfl, hi, hu, hv, k7, k6, k2, f14⟩
   refine ⟨fun hlt => ?_, fun hge => ?_⟩
   ·have p1 : IntKind.i64.wrap ((i : Int).tdiv 4) = ((i / 4 : Nat) : Int) := by
     have := tdiv_nat i 4
     rw [show ((4 : Nat) : Int) = 4 from rfl] at this
     rw [this]; exact wrap_i64 (by omega) (by omega)
    have p2 : IntKind.i64.wrap (24 - IntKind.i64.wrap (8 * (i : Int).tmod 4)) = ((24 - 8 * (i % 4) : Nat) : Int) := by
     have := tmod_nat i 4
     rw [show ((4 : Nat) : Int) = 4 from rfl] at this
     rw [this, wrap_i64 (x := 8 * ((i % 4 : Nat) : Int)) (by omega) (by omega), wrap_i64 (by omega) (by omega)]; omega
    have p3 : IntKind.i64.wrap ((i : Int) + 1) = ((i + 1 : Nat) : Int) := wrap_i64 (by omega) (by omega)
    rw [p1, p2, p3]
    have hrd6 : w14.cell? ⟨b6, 0 + (((i / 4 : Nat) : Int)).toNat * 1, none⟩ = some (.int .u32 (h2.l.getD (i / 4) 0)) := by
     obtain ⟨a, ha⟩ := h2.get (i := i / 4) (by omega)
     rw [Nat.zero_add, Nat.mul_one, Int.toNat_natCast, k6.cell, List.getElem?_toArray, List.getElem?_append_left (by simp [S8.len]; omega), Iv_get ha, List.getD_eq_getElem?_getD, ha]
     rfl
    refine ⟨by omega, by omega, _, hrd6, by omega, by omega, hlt, k7.stv (by omega) fun w15 k15 m15 => ⟨⟨i + 1, _, rfl, by omega, by simp [hu], fun j hj => ?_, k15, k6.mod m15 (by omega), k2.mod m15 (by omega), f14.trans (m15.mono fun k hk e => by omega)⟩, by dsimp only; omega⟩⟩
    rw [get_set (by omega)]
    split
    ·rename_i hji; rw [hji]; rfl
    ·exact hv j (by omega)
   ·obtain rfl : i = 32 := by omega
    have hue := map_range_of hu hv
    subst hue
    refine out_ok (t1 := 22) (t2 := 22) k7 k2 (by simp) (by simp) (One_Iv _ _) fun w' m' => ⟨?_, Fro.ext (f14.trans (m'.mono fun k hk e => by omega))⟩
    rw [h2e]
    rfl
theorem new_st (w : World) : Ret Tryz.prog 96 #[] w fun v w' => ∃ d, v = .agg (d ++ ([.slice none 0 0, .int .u64 0] : List Value)).toArray ∧ d.length = 8 ∧ StOf w' d none 0 0 0 [] ∧ Ext w w' := by
 refine L_96 w _ ?_
 intro b1 w1 e1 e2
 have hB : Blk w1 b1 164 ((List.replicate 8 (.int .u32 0 : Value)) ++ ([.slice none 0 0, .int .u64 0] : List Value)).toArray := Blk.new e1 e2
 refine lay_ok hB (by simp) (by simp) fun w2 h2 m2 => ?_
 refine ⟨List.replicate 8 (.int .u32 0 : Value), none, 0, 0, 0, rfl, h2.range_all, _, rfl, rfl, ⟨⟨⟨0, 0, 0, 0, 0, 0, 0, 0⟩, rfl, fun h => absurd h (by decide)⟩, rfl, rfl, .inl rfl⟩, Fro.ext (((Mod.refl _ _).alloc e2).trans (m2.mono fun k hk e => by omega))⟩
theorem sha_ok {w : World} {A B : Option Addr} {m c c2 : Nat} {txt : List Int} (hA : RdS w A [.slice B m c2]) (hl : txt.length = m) (hr : RdS w B (By txt)) (h8 : Bytes txt) (few : m ≤ 900000) :
  Ret Tryz.prog 77 #[.slice A 1 c] w fun v w' => v = .agg (By (shaL txt)).toArray ∧ Ext w w' := by
 subst hl
 refine L_77 A 1 c w _ ?_
 intro b1 w1 e1 e2
 have m1 : Ext w w1 := (Mod.refl _ _).alloc e2
 have t1 : b1 < w1.heap.size := by rw [e2, e1]; simp
 have hB1 : Blk w1 b1 22 (List.replicate 32 (.int .u8 0 : Value)).toArray := Blk.new e1 e2
 refine (new_st w1).mono ?_
 rintro v w2 ⟨d, rfl, hd, hst, m2⟩
 refine ⟨d, none, 0, 0, 0, rfl, hd, ?_⟩
 intro b2 w3 e3 e4
 have m3 : Ext w2 w3 := (Mod.refl _ _).alloc e4
 have s2 := m2.size
 have hB2 : Blk w3 b2 164 ((List.replicate 8 (.int .u32 0 : Value)) ++ ([.slice none 0 0, .int .u64 0] : List Value)).toArray := Blk.new e3 e4
 obtain ⟨h0, rfl, _⟩ := hst.h
 refine ⟨rfl, One_st, lay_ok hB2 (by rfl) (by simp) fun w4 h4 m4 => ?_⟩
 have f4 : Fro w.heap.size w w4 := (Mod.of_ext ((m1.trans m2).trans m3)).trans (m4.mono fun k hk e => by omega)
 have hst4 : StOf w4 (Iv .u32 h0.l) none 0 0 0 [] := ⟨hst.h, hst.x, hst.n, .inl rfl⟩
 have g1 : Blk w4 b1 22 (List.replicate 32 (.int .u8 0 : Value)).toArray := ((hB1.ext m2).ext m3).mod m4 (by omega)
 refine ⟨fun x2 w5 => (x2 = 0 ∨ x2 = 1) ∧ ∃ (h : S8) (A' : Option Addr) (n' c' : Nat) (x' : Int), Blk w5 b2 164 (Iv .u32 h.l ++ ([.slice A' n' c', .int .u64 x'] : List Value)).toArray ∧ StOf w5 (Iv .u32 h.l) A' n' c' x' (if x2 = 0 then [] else txt) ∧
   Blk w5 b1 22 (List.replicate 32 (.int .u8 0 : Value)).toArray ∧ Fro w.heap.size w w5, fun x2 _ => (1 - x2).toNat, ⟨.inl rfl, h0, none, 0, 0, 0, h4, hst4, g1, f4⟩, ?_⟩
 rintro x2 w5 ⟨hx2, h, A', n', c', x', j2, hst5, j1, f5⟩
 refine ⟨fun hlt => ?_, fun hge => ?_⟩
 ·obtain rfl : x2 = 0 := by omega
  obtain ⟨b, o, hAb, hc0⟩ := (hA.ext f5.ext).at (i := 0) rfl
  refine ⟨b, o, hAb, by decide, by decide, B, txt.length, c2, hc0, Iv .u32 h.l, A', n', c', x', rfl, j2.range_all, ?_⟩
  refine (write_ok hst5 rfl (hr.ext f5.ext) (fun x hx => by cases hx) h8 (by simp; omega)).mono ?_
  rintro v w6 ⟨d6, A6, n6, c6, x6, rfl, hd6, hst6, hfr, m6⟩
  obtain ⟨h6, rfl, _⟩ := hst6.h
  refine ⟨_, A6, n6, c6, x6, rfl, rfl, rfl, One_st, lay_ok (j2.ext m6) (by rfl) (by simp [S8.len]) fun w7 h7 m7 => ⟨⟨.inr rfl, h6, A6, n6, c6, x6, h7, ?_, (j1.ext m6).mod m7 (by omega), (Mod.ext f5 m6).trans (m7.mono fun k hk e => by omega)⟩, by dsimp only; decide⟩⟩
  refine ⟨hst6.h, hst6.x, hst6.n, ?_⟩
  have := j2.lt
  exact (hfr.mod m7 fun k hk e => by omega).rd
 ·obtain rfl : x2 = 1 := by omega
  refine ⟨Iv .u32 h.l, A', n', c', x', rfl, j2.range_all, ?_⟩
  refine (stsum_ok hst5 h8 few).mono ?_
  rintro v w8 ⟨rfl, m8⟩
  refine ⟨By (shaL txt), rfl, by simp [By, shaL_length], by simp [By, shaL_length], One_By _, lay_ok (j1.ext m8) (by simp [By, shaL_length]) (by simp) fun w9 h9 m9 => ⟨By (shaL txt), by simp [By, shaL_length], h9.range_all, rfl, Fro.ext ((Mod.ext f5 m8).trans (m9.mono fun k hk e => by omega))⟩⟩
end Go.Proofs.YtpkfdhlkknanmaaGreat
