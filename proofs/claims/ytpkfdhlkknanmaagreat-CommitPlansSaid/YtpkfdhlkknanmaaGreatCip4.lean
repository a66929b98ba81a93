/-
 The document's own cipher comes to the same law: a block of the key stream.
-/
import Derived.Test.YtpkfdhlkknanmaaGreatCip3
set_option linter.all false
namespace Go.Proofs.YtpkfdhlkknanmaaGreat
open Go Go.RowKit Go.Proofs
def Plc (w : World) (n0 : Nat) (A : Option Addr) : Prop :=
 ∃ b9, A = some ⟨b9, 0, none⟩ ∧ n0 ≤ b9 ∧ b9 < w.heap.size ∧ ∀ (i : Nat) p, p8[i]? = some p → ∃ bi, n0 ≤ bi ∧ w.cell? ⟨b9, 0 + ((i : Int)).toNat * 1, none⟩ = some (.slice (some ⟨bi, 0, none⟩) 4 4) ∧
  Blk w bi 3 (Iv .i64 [(p.1 : Int), (p.2.1 : Int), (p.2.2.1 : Int), (p.2.2.2 : Int)]).toArray
theorem Plc.mod {ψ : Nat → Prop} {w w' : World} {n0 : Nat} {A : Option Addr} (h : Plc w n0 A) (hm : Mod ψ w w') (hn : ∀ k, ψ k → k < n0) : Plc w' n0 A := by
 obtain ⟨b9, e, h1, h2, h3⟩ := h
 refine ⟨b9, e, h1, Nat.lt_of_lt_of_le h2 hm.size, fun i p hp => ?_⟩
 obtain ⟨bi, g1, g2, g3⟩ := h3 i p hp
 exact ⟨bi, g1, (World.cell?_of_block (a := ⟨b9, 0 + ((i : Int)).toNat * 1, none⟩) (hm.block b9 h2 fun hk => by have := hn _ hk; omega)).trans g2, g3.mod hm fun hk => by have := hn _ hk; omega⟩
theorem places_ok (w : World) : Ret Tryz.prog 113 #[] w fun v w' => ∃ A, v = .slice A 8 8 ∧ Plc w' w.heap.size A ∧ Ext w w' := by
 refine L_113 w _ ?_
 intro b1 w1 e1 f1 b2 w2 e2 f2 b3 w3 e3 f3 b4 w4 e4 f4 b5 w5 e5 f5 b6 w6 e6 f6 b7 w7 e7 f7 b8 w8 e8 f8 b9 w9 e9 f9
 have m1 : Ext w w1 := (Mod.refl _ _).alloc f1
 have m2 : Ext w1 w2 := (Mod.refl _ _).alloc f2
 have m3 : Ext w2 w3 := (Mod.refl _ _).alloc f3
 have m4 : Ext w3 w4 := (Mod.refl _ _).alloc f4
 have m5 : Ext w4 w5 := (Mod.refl _ _).alloc f5
 have m6 : Ext w5 w6 := (Mod.refl _ _).alloc f6
 have m7 : Ext w6 w7 := (Mod.refl _ _).alloc f7
 have m8 : Ext w7 w8 := (Mod.refl _ _).alloc f8
 have m9 : Ext w8 w9 := (Mod.refl _ _).alloc f9
 have s1 := m1.size; have s2 := m2.size; have s3 := m3.size; have s4 := m4.size; have s5 := m5.size; have s6 := m6.size; have s7 := m7.size; have s8 := m8.size
 have a8 := m9
 have a7 := m8.trans a8
 have a6 := m7.trans a7
 have a5 := m6.trans a6
 have a4 := m5.trans a5
 have a3 := m4.trans a4
 have a2 := m3.trans a3
 have a1 := m2.trans a2
 have g1 : Blk w9 b1 3 (Iv .i64 [0, 4, 8, 12]).toArray := (Blk.new e1 f1).ext a1
 have g2 : Blk w9 b2 3 (Iv .i64 [1, 5, 9, 13]).toArray := (Blk.new e2 f2).ext a2
 have g3 : Blk w9 b3 3 (Iv .i64 [2, 6, 10, 14]).toArray := (Blk.new e3 f3).ext a3
 have g4 : Blk w9 b4 3 (Iv .i64 [3, 7, 11, 15]).toArray := (Blk.new e4 f4).ext a4
 have g5 : Blk w9 b5 3 (Iv .i64 [0, 5, 10, 15]).toArray := (Blk.new e5 f5).ext a5
 have g6 : Blk w9 b6 3 (Iv .i64 [1, 6, 11, 12]).toArray := (Blk.new e6 f6).ext a6
 have g7 : Blk w9 b7 3 (Iv .i64 [2, 7, 8, 13]).toArray := (Blk.new e7 f7).ext a7
 have g8 : Blk w9 b8 3 (Iv .i64 [3, 4, 9, 14]).toArray := (Blk.new e8 f8).ext a8
 have g9 := Blk.new e9 f9
 refine ⟨_, rfl, ⟨b9, rfl, by omega, g9.lt, fun i p hp => ?_⟩, m1.trans a1⟩
 match i, hp with
 | 0, hp => cases hp; exact ⟨b1, by omega, by rw [g9.cell]; rfl, g1⟩
 | 1, hp => cases hp; exact ⟨b2, by omega, by rw [g9.cell]; rfl, g2⟩
 | 2, hp => cases hp; exact ⟨b3, by omega, by rw [g9.cell]; rfl, g3⟩
 | 3, hp => cases hp; exact ⟨b4, by omega, by rw [g9.cell]; rfl, g4⟩
 | 4, hp => cases hp; exact ⟨b5, by omega, by rw [g9.cell]; rfl, g5⟩
 | 5, hp => cases hp; exact ⟨b6, by omega, by rw [g9.cell]; rfl, g6⟩
 | 6, hp => cases hp; exact ⟨b7, by omega, by rw [g9.cell]; rfl, g7⟩
 | 7, hp => cases hp; exact ⟨b8, by omega, by rw [g9.cell]; rfl, g8⟩
 | n + 8, hp => simp [p8] at hp
def setK (l : List Int) (ps : List Nat) (qs : List Int) : Nat → List Int
 | 0 => l
 | n + 1 => (setK l ps qs n).set (ps.getD n 0) (qs.getD n 0)
theorem setK_length (l : List Int) (ps : List Nat) (qs : List Int) : ∀ n, (setK l ps qs n).length = l.length
 | 0 => rfl
 | n + 1 => by rw [setK, List.length_set, setK_length l ps qs n]
theorem p8_lt : ∀ p ∈ p8, p.1 < 16 ∧ p.2.1 < 16 ∧ p.2.2.1 < 16 ∧ p.2.2.2 < 16 := by decide
theorem stW_take {key nonce : List Int} {ctr : Int} {i : Nat} (h : i < 8) : (stW key nonce ctr).take (4 + (i + 1)) = (stW key nonce ctr).take (4 + i) ++ [lw key i] := by
 rw [← Nat.add_assoc, List.take_succ, stW_key _ _ _ h]; rfl
theorem stW_take2 {key nonce : List Int} {ctr : Int} {i : Nat} (h : i < 3) : (stW key nonce ctr).take (13 + (i + 1)) = (stW key nonce ctr).take (13 + i) ++ [lw nonce i] := by
 rw [← Nat.add_assoc, List.take_succ, stW_nonce _ _ _ h]; rfl
theorem OX.block {t : TypeId} {k : IntKind} {w : World} {base : Nat} {A : Option Addr} {c : Nat} {l : List Int} (h : OX t k w base A c l) (hne : 0 < l.length) : ∃ g, A = some ⟨g, 0, none⟩ ∧ base ≤ g ∧ g < w.heap.size := by
 obtain ⟨g, hA, hb, _⟩ := h.setAt hne
 exact ⟨g, hA, hb, (Own.base h g 0 hA).2⟩
set_option maxHeartbeats 1000000 in
theorem refkeyblock_ok {w : World} {key nonce : List Int} {ctr : Int} (hk : key.length = 32) (hn : nonce.length = 12) (k8 : Bytes key) (n8 : Bytes nonce) (hc : R32 ctr) :
  Ret Tryz.prog 99 #[.agg (By key).toArray, .agg (By nonce).toArray, .int .u32 ctr] w fun v w' => v = .agg (By (keyB key nonce ctr)).toArray ∧ Ext w w' := by
 refine L_99 (By key) (By nonce) ctr w _ (by simp [hk]) (by simp [hn]) ?_
 intro b1 w1 e1 e2 b2 w2 e3 e4 b3 w3 e5 e6 b4 w4 e7 e8
 have m1 : Ext w w1 := (Mod.refl _ _).alloc e2
 have m2 : Ext w1 w2 := (Mod.refl _ _).alloc e4
 have m3 : Ext w2 w3 := (Mod.refl _ _).alloc e6
 have m4 : Ext w3 w4 := (Mod.refl _ _).alloc e8
 have s1 := m1.size; have s2 := m2.size; have s3 := m3.size; have s4 := m4.size
 have t1 : b1 < w1.heap.size := by rw [e2, e1]; simp
 have t2 : b2 < w2.heap.size := by rw [e4, e3]; simp
 have t3 : b3 < w3.heap.size := by rw [e6, e5]; simp
 have hB1 : Blk w4 b1 22 (Iv .u8 key).toArray := (((Blk.new e1 e2).ext m2).ext m3).ext m4
 have hB2 : Blk w4 b2 130 (Iv .u8 nonce).toArray := ((Blk.new e3 e4).ext m3).ext m4
 have hB3 : Blk w4 b3 160 (List.replicate 64 (.int .u8 0 : Value)).toArray := (Blk.new e5 e6).ext m4
 have hO : OX 23 .u32 w4 b4 (some ⟨b4, 0, none⟩) 4 ((stW key nonce ctr).take 4) := by
  have : (stW key nonce ctr).take 4 = [1634760805, 857760878, 2036477234, 1797285236] := rfl
  rw [this]
  exact Own.new (cs := Iv .u32 [1634760805, 857760878, 2036477234, 1797285236]) (by rfl) (by decide) (Nat.le_refl _) (Blk.new e7 e8)
 have t4 : b4 < w4.heap.size := by rw [e8, e7]; simp
 refine ⟨fun A n c x w5 => ∃ i : Nat, x = i ∧ i ≤ 8 ∧ n = 4 + i ∧ OX 23 .u32 w5 b4 A c ((stW key nonce ctr).take (4 + i)) ∧ Fro b4 w4 w5, fun _ _ _ x _ => (8 - x).toNat, ⟨0, rfl, by omega, rfl, hO, Mod.refl _ _⟩, ?_⟩
 rintro A1 n1 c1 x2 w5 ⟨i, rfl, hi, rfl, o5, f5⟩
 have tl : ∀ n, n ≤ 16 → ((stW key nonce ctr).take n).length = n := fun n hn => by rw [List.length_take, stW_length]; omega
 have s5 := f5.size
 refine ⟨fun hlt => ?_, fun hge => ?_⟩
 ·have q1 : IntKind.i64.wrap (4 * (i : Int)) = ((4 * i : Nat) : Int) := by rw [wrap_i64 (by omega) (by omega)]; omega
  have q2 : IntKind.i64.wrap (((4 * i : Nat) : Int) + 4) = ((4 * i + 4 : Nat) : Int) := by rw [wrap_i64 (by omega) (by omega)]; omega
  have q3 : IntKind.i64.wrap ((i : Int) + 1) = ((i + 1 : Nat) : Int) := wrap_i64 (by omega) (by omega)
  rw [q1, q2, q3]
  refine ⟨by omega, by omega, by omega, by decide, ?_⟩
  intro A2 hA2
  rw [Int.toNat_natCast] at hA2
  have q4 : (((4 * i + 4 : Nat) : Int)).toNat - (((4 * i : Nat) : Int)).toNat = 4 := by omega
  rw [q4]
  have hr : RdS w5 A2 (By (key.drop (4 * i))) := by
   have h0 : RdS w5 (some ⟨b1, 0, none⟩) (By key) := .inr ⟨b1, 0, rfl, (hB1.mod f5 (by omega)).range_all⟩
   have := h0.cut (l := 4 * i) (m := 32) (size := 1) (fun e => by omega)
   rw [Nat.mul_one, By_drop] at this
   rw [hA2]; exact this
  refine (leword_ok (Nat.le_refl 4) (by rw [List.length_drop]; omega) hr (fun x hx => k8 x (List.mem_of_mem_drop hx))).mono ?_
  rintro v w6 ⟨rfl, m6⟩
  rw [lw_drop]
  refine ⟨_, rfl, ?_⟩
  intro b5 w7 e9 e10
  refine (o5.ext m6).push (by have := m6.size; omega) (tl _ (by omega)) e9 e10 (by omega) (by decide) fun A3 c3 w8 o8 f8 => ⟨⟨i + 1, rfl, by omega, rfl, ?_, (Mod.ext f5 m6).trans f8⟩, by dsimp only; omega⟩
  rw [stW_take (by omega)]; exact o8
 ·obtain rfl : i = 8 := by omega
  intro b6 w9 e9 e10
  refine o5.push (by omega) (tl _ (by omega)) e9 e10 (by omega) (by decide) fun A4 c4 w10 o10 f10 => ?_
  have h13 : (stW key nonce ctr).take 13 = (stW key nonce ctr).take 12 ++ [ctr] := by rw [List.take_succ, stW_ctr]; rfl
  have o10' : OX 23 .u32 w10 b4 A4 c4 ((stW key nonce ctr).take 13) := by rw [h13]; exact o10
  have s10 := f10.size
  refine ⟨fun A n c x w5 => ∃ i : Nat, x = i ∧ i ≤ 3 ∧ n = 13 + i ∧ OX 23 .u32 w5 b4 A c ((stW key nonce ctr).take (13 + i)) ∧ Fro b4 w4 w5, fun _ _ _ x _ => (3 - x).toNat, ⟨0, rfl, by omega, rfl, o10', f5.trans f10⟩, ?_⟩
  rintro A5 n2 c5 x4 w11 ⟨i, rfl, hi, rfl, o11, f11⟩
  have s11 := f11.size
  refine ⟨fun hlt => ?_, fun hge2 => ?_⟩
  ·have q1 : IntKind.i64.wrap (4 * (i : Int)) = ((4 * i : Nat) : Int) := by rw [wrap_i64 (by omega) (by omega)]; omega
   have q2 : IntKind.i64.wrap (((4 * i : Nat) : Int) + 4) = ((4 * i + 4 : Nat) : Int) := by rw [wrap_i64 (by omega) (by omega)]; omega
   have q3 : IntKind.i64.wrap ((i : Int) + 1) = ((i + 1 : Nat) : Int) := wrap_i64 (by omega) (by omega)
   rw [q1, q2, q3]
   refine ⟨by omega, by omega, by omega, by decide, ?_⟩
   intro A2 hA2
   rw [Int.toNat_natCast] at hA2
   have q4 : (((4 * i + 4 : Nat) : Int)).toNat - (((4 * i : Nat) : Int)).toNat = 4 := by omega
   rw [q4]
   have hr : RdS w11 A2 (By (nonce.drop (4 * i))) := by
    have h0 : RdS w11 (some ⟨b2, 0, none⟩) (By nonce) := .inr ⟨b2, 0, rfl, (hB2.mod f11 (by omega)).range_all⟩
    have := h0.cut (l := 4 * i) (m := 12) (size := 1) (fun e => by omega)
    rw [Nat.mul_one, By_drop] at this
    rw [hA2]; exact this
   refine (leword_ok (Nat.le_refl 4) (by rw [List.length_drop]; omega) hr (fun x hx => n8 x (List.mem_of_mem_drop hx))).mono ?_
   rintro v w6 ⟨rfl, m6⟩
   rw [lw_drop]
   refine ⟨_, rfl, ?_⟩
   intro b5 w7 e11 e12
   refine (o11.ext m6).push (by have := m6.size; omega) (tl _ (by omega)) e11 e12 (by omega) (by decide) fun A3 c3 w8 o8 f8 => ⟨⟨i + 1, rfl, by omega, rfl, ?_, (Mod.ext f11 m6).trans f8⟩, by dsimp only; omega⟩
   rw [stW_take2 (by omega)]; exact o8
  ·obtain rfl : i = 3 := by omega
   have ht16 : (stW key nonce ctr).take (13 + 3) = stW key nonce ctr := List.take_of_length_le (by rw [stW_length]; decide)
   rw [ht16] at o11
   have hfl := stW_length key nonce ctr
   have hfw := stW_words (ctr := ctr) k8 n8 hc
   have hkb : keyB key nonce ctr = (List.range 64).map (bo (stW key nonce ctr)) := rfl
   rw [hkb]
   generalize stW key nonce ctr = f at *
   obtain ⟨g5, hA5, hg5, hg5l⟩ := o11.block (by omega)
   refine (OX.nil 23 .u32 w11 w11.heap.size).app (Nat.le_refl _) rfl hfl o11.rd (by omega) (by decide) fun A8 c8 w15 o15 f15 => ?_
   rw [List.nil_append] at o15
   obtain ⟨g8, hA8, hg8, hg8l⟩ := o15.block (by omega)
   have fr15 : Fro w.heap.size w w15 := ((Mod.of_ext (((m1.trans m2).trans m3).trans m4)).trans (f11.mono fun k _ hk => by omega)).trans (f15.mono fun k _ hk => by omega)
   have r5 : RdP (fun k => k < w11.heap.size) w15 A5 (Iv .u32 f) := o11.rd.lt.mod f15 fun k hk h => by omega
   have hB3' : Blk w15 b3 160 (List.replicate 64 (.int .u8 0 : Value)).toArray := (hB3.mod f11 (by omega)).mod f15 (by omega)
   have s15 := f15.size
   refine ⟨fun x6 w16 => ∃ r : Nat, x6 = r ∧ r ≤ 10 ∧ OX 23 .u32 w16 w11.heap.size A8 c8 (coreN f r) ∧ Mod (fun k => k = g8) w15 w16, fun x6 _ => (10 - x6).toNat, ⟨0, rfl, by omega, o15, Mod.refl _ _⟩, ?_⟩
   rintro x6 w16 ⟨r, rfl, hr, o16, m16⟩
   have s16 := m16.size
   refine ⟨fun hlt => ?_, fun hge3 => ?_⟩
   ·refine (places_ok w16).mono ?_
    rintro v w17 ⟨A9, rfl, hP, m17⟩
    refine ⟨A9, 8, 8, rfl, ?_⟩
    have pl : ∀ i, (pf (coreN f r) i).length = 16 := fun i => by rw [pf_length, coreN_length, hfl]
    have pw : ∀ i, Words (pf (coreN f r) i) := pf_words (coreN_words hfw r)
    refine ⟨fun x7 w18 => ∃ i : Nat, x7 = i ∧ i ≤ 8 ∧ OX 23 .u32 w18 w11.heap.size A8 c8 (pf (coreN f r) i) ∧ Plc w18 w16.heap.size A9 ∧ Mod (fun k => k = g8) w15 w18 ∧ w16.heap.size ≤ w18.heap.size, fun x7 _ => (8 - x7).toNat,
     ⟨0, rfl, by omega, o16.ext m17, hP, Mod.ext m16 m17, m17.size⟩, ?_⟩
    rintro x7 w18 ⟨i, rfl, hi, o18, hP18, m18, s18⟩
    refine ⟨fun hlt2 => ?_, fun hge4 => ?_⟩
    ·obtain ⟨p, hp⟩ : ∃ p, p8[i]? = some p := ⟨_, List.getElem?_eq_getElem (show i < p8.length by show i < 8; omega)⟩
     obtain ⟨h1, h2, h3, h4⟩ := p8_lt p (List.mem_of_getElem? hp)
     obtain ⟨b9, rfl, hb9, hb9l, hpl⟩ := hP18
     obtain ⟨bi, hbi, hcell, hBi⟩ := hpl i p hp
     have hP18 : Plc w18 w16.heap.size (some ⟨b9, 0, none⟩) := ⟨b9, rfl, hb9, hb9l, hpl⟩
     have q3 : IntKind.i64.wrap ((i : Int) + 1) = ((i + 1 : Nat) : Int) := wrap_i64 (by omega) (by omega)
     rw [q3]
     have hw := pw i
     have hl := pl i
     have hpfs : pf (coreN f r) (i + 1) = tAt (pf (coreN f r) i) p.1 p.2.1 p.2.2.1 p.2.2.2 := pf_succ hp
     generalize pf (coreN f r) i = l at *
     refine ⟨b9, 0, rfl, by omega, hlt2, some ⟨bi, 0, none⟩, 4, 4, hcell, ?_⟩
     have hbil := hBi.lt
     generalize hq : qrnd (l.getD p.1 0) (l.getD p.2.1 0) (l.getD p.2.2.1 0) (l.getD p.2.2.2 0) = q at *
     refine ⟨fun p2 w19 => ∃ bF, p2 = some ⟨bF, 0, none⟩ ∧ bF ≠ g8 ∧ Blk w19 bF 178 (Iv .u32 q).toArray ∧ Ext w18 w19, ?_, ?_⟩
     ·rintro p2 w19 ⟨bF, rfl, hbF, hBF, m19⟩
      refine ⟨fun x8 w20 => ∃ n : Nat, x8 = n ∧ n ≤ 4 ∧ OX 23 .u32 w20 w11.heap.size A8 c8 (setK l [p.1, p.2.1, p.2.2.1, p.2.2.2] q n) ∧ Blk w20 bF 178 (Iv .u32 q).toArray ∧ Mod (fun k => k = g8) w18 w20, fun x8 _ => (4 - x8).toNat,
       ⟨0, rfl, by omega, o18.ext m19, hBF, Mod.of_ext m19⟩, ?_⟩
      rintro x8 w20 ⟨n, rfl, hn4, o20, hBF20, m20⟩
      refine ⟨fun hlt3 => ?_, fun hge5 => ?_⟩
      ·intro w21 e21
       have m21 : Ext w20 w21 := (Mod.refl _ _).drew e21
       have hBi20 := hBi.mod m20 (by omega)
       have hps : ∃ y : Nat, y < 16 ∧ ([p.1, p.2.1, p.2.2.1, p.2.2.2] : List Nat)[n]? = some y := by
        match n, hlt3 with
        | 0, _ => exact ⟨_, h1, rfl⟩
        | 1, _ => exact ⟨_, h2, rfl⟩
        | 2, _ => exact ⟨_, h3, rfl⟩
        | 3, _ => exact ⟨_, h4, rfl⟩
        | n + 4, h => omega
       obtain ⟨y, hy, hpy⟩ := hps
       have hpyI : ([(p.1 : Int), (p.2.1 : Int), (p.2.2.1 : Int), (p.2.2.2 : Int)] : List Int)[n]? = some (y : Int) := by
        have : ([(p.1 : Int), (p.2.1 : Int), (p.2.2.1 : Int), (p.2.2.2 : Int)] : List Int) = ([p.1, p.2.1, p.2.2.1, p.2.2.2] : List Nat).map (fun z : Nat => (z : Int)) := rfl
        rw [this, List.getElem?_map, hpy]; rfl
       have hql : q.length = 4 := by rw [← hq]; rfl
       have q4 : IntKind.i64.wrap ((n : Int) + 1) = ((n + 1 : Nat) : Int) := wrap_i64 (by omega) (by omega)
       rw [q4]
       obtain ⟨g, hA, _, _, hs1, hs2, hs3⟩ := (o20.ext m21).setAt (i := y) (by rw [setK_length, hl]; exact hy)
       obtain rfl : g = g8 := by rw [hA8] at hA; injection hA with hA; injection hA with hA; exact hA.symm
       refine ⟨bi, 0, rfl, by omega, by omega, _, hBi20.ldv hpyI, bF, 0, rfl, by omega, hlt3, _, hBF20.ldv (getD_get (by omega)), g, 0, hA8, by omega, by omega, hs1, hs2, ?_⟩
       intro w22 e22
       obtain ⟨o22, m22⟩ := hs3 _ w22 e22
       refine ⟨⟨n + 1, rfl, by omega, ?_, (hBF20.ext m21).mod m22 (by omega), (Mod.ext m20 m21).trans m22⟩, by dsimp only; omega⟩
       have : setK l [p.1, p.2.1, p.2.2.1, p.2.2.2] q (n + 1) = (setK l [p.1, p.2.1, p.2.2.1, p.2.2.2] q n).set y (q.getD n 0) := by
        rw [setK, List.getD_eq_getElem?_getD, hpy]; rfl
       rw [this]; exact o22
      ·obtain rfl : n = 4 := by omega
       refine ⟨⟨i + 1, rfl, by omega, ?_, hP18.mod m20 (fun k hk => by omega), m18.trans m20, Nat.le_trans s18 m20.size⟩, by dsimp only; omega⟩
       rw [hpfs]
       have : setK l [p.1, p.2.1, p.2.2.1, p.2.2.2] q 4 = tAt l p.1 p.2.1 p.2.2.1 p.2.2.2 := by rw [← hq]; rfl
       rw [← this]; exact o20
     ·intro w23 e23
      have m23 : Ext w18 w23 := (Mod.refl _ _).drew e23
      obtain ⟨b13, o6, hA8', hrow⟩ := o18.rd.row (by omega)
      have s23 := m23.size
      refine ⟨bi, 0, rfl, by decide, by decide, _, hBi.ldv (i := 0) rfl, b13, o6, hA8', by omega, by omega, _, hrow p.1 _ (getD_get (by omega)), by decide, by decide, _, hBi.ldv (i := 1) rfl, by omega, by omega, _, hrow p.2.1 _ (getD_get (by omega)), by decide, by decide, _, hBi.ldv (i := 2) rfl, by omega, by omega, _, hrow p.2.2.1 _ (getD_get (by omega)), by decide, by decide, _, hBi.ldv (i := 3) rfl, by omega, by omega, _, hrow p.2.2.2 _ (getD_get (by omega)), ?_⟩
      intro wp mp fp
      refine (refquarter_ok (hw.getD _) (hw.getD _) (hw.getD _) (hw.getD _)).mono ?_
      rintro v wq ⟨rfl, mq⟩
      refine ⟨_, _, _, _, rfl, mq.keepFl (fun _ _ _ => id), ?_⟩
      intro bF wz mz fz
      obtain ⟨_, _, hf⟩ := fz
      obtain ⟨hbF, hn0, _⟩ := hf _ (List.mem_singleton.2 rfl)
      simp only at hbF hn0
      have s18' := m18.size
      refine lay_ok hbF (by rfl) (by rfl) fun w24 h24 m24 => ⟨bF, rfl, by omega, by rw [← hq]; exact h24, ?_⟩
      have a : Ext w18 wz := ((m23.trans mp).trans mq).trans mz
      exact Fro.ext ((Mod.of_ext a).trans (m24.mono fun n hn e => by omega))
    ·obtain rfl : i = 8 := by omega
     have q4 : IntKind.i64.wrap ((r : Int) + 1) = ((r + 1 : Nat) : Int) := wrap_i64 (by omega) (by omega)
     rw [q4]
     exact ⟨⟨r + 1, rfl, by omega, o18, m18⟩, by dsimp only; omega⟩
   ·obtain rfl : r = 10 := by omega
    intro b1014 w1026 e11 e12
    have m26 : Ext w16 w1026 := (Mod.refl _ _).alloc e12
    have hBo : Blk w1026 b1014 160 (Iv .u8 (List.replicate 64 0)).toArray := by rw [Iv_replicate]; exact Blk.new e11 e12
    have k3 := (hB3'.mod m16 (by omega)).ext m26
    have k5 := (r5.mod m16 (fun k hk e => by omega)).ext m26
    have fr26 : Fro w.heap.size w w1026 := Mod.ext (fr15.trans (m16.mono fun k hk e => by omega)) m26
    refine ⟨fun x w27 => ∃ (i : Nat) (u : List Int), x = i ∧ i ≤ 16 ∧ u.length = 64 ∧ (∀ j, j < 4 * i → u[j]? = some (bo f j)) ∧ Blk w27 b1014 160 (Iv .u8 u).toArray ∧ RdP (fun k => k < w16.heap.size) w27 A8 (Iv .u32 (coreN f 10)) ∧ RdP (fun k => k < w11.heap.size) w27 A5 (Iv .u32 f) ∧
      Blk w27 b3 160 (List.replicate 64 (.int .u8 0 : Value)).toArray ∧ Fro w.heap.size w w27, fun x _ => (16 - x).toNat,
     ⟨0, _, rfl, by omega, by simp, fun j hj => absurd hj (by omega), hBo, o16.rd.lt.ext m26, k5, k3, fr26⟩, ?_⟩
    rintro x23 w27 ⟨i, u, rfl, hi, hu, hv, ko, k8', k5', k3', f27⟩
    have cl : (coreN f 10).length = 16 := by rw [coreN_length, hfl]
    refine ⟨fun hlt4 => ?_, fun hge6 => ?_⟩
    ·intro w28 e28
     have m28 : Ext w27 w28 := (Mod.refl _ _).drew e28
     obtain ⟨c1, c2, hA8', hr8⟩ := k8'.rd.row (by omega)
     obtain ⟨c3, c4, hA5', hr5⟩ := k5'.rd.row (by omega)
     refine ⟨c1, c2, hA8', by omega, by omega, _, hr8 i _ (getD_get (by omega)), c3, c4, hA5', by omega, by omega, _, hr5 i _ (getD_get (by omega)), ?_⟩
     refine ⟨fun x w29 => ∃ (n : Nat) (u : List Int), x = n ∧ n ≤ 4 ∧ u.length = 64 ∧ (∀ j, j < 4 * i + n → u[j]? = some (bo f j)) ∧ Blk w29 b1014 160 (Iv .u8 u).toArray ∧ RdP (fun k => k < w16.heap.size) w29 A8 (Iv .u32 (coreN f 10)) ∧ RdP (fun k => k < w11.heap.size) w29 A5 (Iv .u32 f) ∧
       Blk w29 b3 160 (List.replicate 64 (.int .u8 0 : Value)).toArray ∧ Fro w.heap.size w w29, fun x _ => (4 - x).toNat,
      ⟨0, u, rfl, by omega, hu, hv, ko.ext m28, k8'.ext m28, k5'.ext m28, k3'.ext m28, Mod.ext f27 m28⟩, ?_⟩
     rintro x26 w29 ⟨n, u2, rfl, hn4, hu2, hv2, jo, j8, j5, j3, f29⟩
     refine ⟨fun hlt5 => ?_, fun hge7 => ?_⟩
     ·have q1 : IntKind.i64.wrap (IntKind.i64.wrap (4 * (i : Int)) + (n : Int)) = ((4 * i + n : Nat) : Int) := by rw [wrap_i64 (x := 4 * (i : Int)) (by omega) (by omega), wrap_i64 (by omega) (by omega)]; omega
      have q2 : IntKind.i64.wrap (8 * (n : Int)) = ((8 * n : Nat) : Int) := by rw [wrap_i64 (by omega) (by omega)]; omega
      have q3 : IntKind.i64.wrap ((n : Int) + 1) = ((n + 1 : Nat) : Int) := wrap_i64 (by omega) (by omega)
      rw [q1, q2, q3]
      refine ⟨by omega, by omega, by omega, jo.stv (by omega) fun w30 h30 m30 => ⟨⟨n + 1, _, rfl, by omega, by simp [hu2], fun j hj => ?_, h30, j8.mod m30 (fun k hk e => by omega), j5.mod m30 (fun k hk e => by omega), j3.mod m30 (by omega), f29.trans (m30.mono fun k hk e => by omega)⟩, by dsimp only; omega⟩⟩
      rw [get_set (by omega)]
      split
      ·rename_i hj2
       rw [hj2]
       unfold bo
       have d1 : (4 * i + n) / 4 = i := by omega
       have d2 : (4 * i + n) % 4 = n := by omega
       rw [d1, d2]
      ·exact hv2 j (by omega)
     ·obtain rfl : n = 4 := by omega
      have q3 : IntKind.i64.wrap ((i : Int) + 1) = ((i + 1 : Nat) : Int) := wrap_i64 (by omega) (by omega)
      rw [q3]
      exact ⟨⟨i + 1, u2, rfl, by omega, hu2, fun j hj => hv2 j (by omega), jo, j8, j5, j3, f29⟩, by dsimp only; omega⟩
    ·obtain rfl : i = 16 := by omega
     have hue := map_range_of hu (fun j hj => hv j (by omega))
     subst hue
     exact out_ok (t1 := 160) (t2 := 160) ko k3' (by simp) (by simp) (One_Iv _ _) fun w' m' => ⟨rfl, Fro.ext (f27.trans (m'.mono fun k hk e => by omega))⟩
end Go.Proofs.YtpkfdhlkknanmaaGreat
