/-
 References, and blocks that are sealed: the program's and the document's.
-/
import Derived.Test.YtpkfdhlkknanmaaGreatPack
set_option linter.all false
namespace Go.Proofs.YtpkfdhlkknanmaaGreat
open Go Go.RowKit Go.Proofs
structure Rf where
 p : Int
 e : Int
 d : List Int
def Rf.cells (r : Rf) : List Value := [.int .i64 r.p, .int .u32 r.e] ++ By r.d
structure Rf.Ok (r : Rf) : Prop where
 len : r.d.length = 32
 d8 : Bytes r.d
 e : R32 r.e
def zd : List Int := List.replicate 32 0
def rf0 : Rf := ⟨0, 0, zd⟩
theorem By_zd : By zd = List.replicate 32 (.int .u8 0 : Value) := List.map_replicate ..
theorem Rf.Ok.clen {r : Rf} (h : r.Ok) : r.cells.length = 34 := by simp [Rf.cells, h.len]
theorem Rf.one (r : Rf) : One r.cells := by
 intro v hv
 rcases List.mem_append.1 hv with hv | hv
 ·simp only [List.mem_cons, List.not_mem_nil, or_false] at hv
  rcases hv with rfl | rfl <;> rfl
 ·exact One_By _ v hv
def layR (r : Rf) : List Int := leB 1 (IntKind.u64.wrap r.p) ++ leB 4 (IntKind.u64.wrap r.e) ++ r.d
theorem layR_length {r : Rf} (h : r.d.length = 32) : (layR r).length = 37 := by simp [layR, leB_length, h]
theorem Blk.post {w : World} {g t : Nat} {a b : List Value} {n : Nat} (h : Blk w g t (a ++ b).toArray) (hn : a.length = n) : w.rangeAt g n b := fun j v hj => by
 have := h.range_all (n + j) v (by rw [List.getElem?_append_right (by omega), show n + j - a.length = j by omega]; exact hj)
 rwa [Nat.zero_add] at this
theorem seallay_ok {w : World} {r : Rf} (h : r.Ok) : Ret Tryz.prog 47 #[.agg r.cells.toArray] w fun v w' => ∃ A c, v = .slice A 37 c ∧ OB w' w.heap.size A c (layR r) ∧ Ext w w' := by
 refine L_47 r.p r.e (By r.d) w _ (by simp [h.len]) ?_
 intro b1 w1 e1 e2 w2 e3
 have hB : Blk w1 b1 46 (([.int .i64 r.p, .int .u32 r.e] : List Value) ++ By r.d).toArray := Blk.new e1 e2
 have m1 : Ext w w1 := (Mod.refl _ _).alloc e2
 have m2 : Ext w1 w2 := (Mod.refl _ _).drew e3
 refine ⟨r.p, by rw [hB.cell]; rfl, r.e, by rw [hB.cell]; rfl, by decide, by decide, by decide, by decide, ?_⟩
 intro A1 hA1
 rw [cutA_zero] at hA1
 refine (num_ok (n := 0) (l := []) (k := 1) rfl (.inl rfl) (by omega) (by omega)).mono ?_
 rintro v w3 ⟨A2, c1, rfl, o3, m3⟩
 have m13 := m2.trans m3
 refine ⟨A2, _, c1, rfl, m13.keep, (num_ok (k := 4) (l := leB 1 (IntKind.u64.wrap r.p)) (by rw [leB_length]) o3.rd (by omega) (by omega)).mono ?_⟩
 rintro v w4 ⟨A3, c2, rfl, o4, m4⟩
 have s1 := m1.size; have s13 := m13.size; have s4 := m4.size
 have hr : RdS w4 A1 (By r.d) := .inr ⟨b1, 2, hA1, ((hB.ext m13).ext m4).post rfl⟩
 refine ⟨A3, _, c2, rfl, o4.app s4 (by rw [List.length_append, leB_length, leB_length]) (by rw [h.len]) hr (by omega) fun A4 c3 w5 o5 f5 => ⟨A4, c3, rfl, o5.mono (by omega), ?_⟩⟩
 exact Fro.ext ((Mod.of_ext ((m1.trans m13).trans m4)).trans (f5.mono fun k hk hb => by omega))
theorem leB4_shr {e : Int} (h : R32 e) : leB 4 (IntKind.u64.wrap e) = (List.range 4).map fun i => IntKind.u8.wrap (iShr .u32 e ((8 * i : Nat) : Int)) := by
 have he : IntKind.u64.wrap e = e := by rw [w64_eq]; have := h.1; have := h.2; omega
 have hs : ∀ i : Nat, i < 4 → iShr .u32 e ((8 * i : Nat) : Int) = e / 2 ^ (8 * i) := fun i hi => by
  unfold iShr
  have : min (((8 * i : Nat) : Int)).toNat IntKind.u32.bits = 8 * i := by rw [Int.toNat_natCast]; simp only [IntKind.bits]; omega
  rw [this, fdiv_nn]
 rw [he]
 show [e % 256, e / 256 % 256, e / 256 / 256 % 256, e / 256 / 256 / 256 % 256] = [IntKind.u8.wrap (iShr .u32 e ((8 * 0 : Nat) : Int)), IntKind.u8.wrap (iShr .u32 e ((8 * 1 : Nat) : Int)), IntKind.u8.wrap (iShr .u32 e ((8 * 2 : Nat) : Int)), IntKind.u8.wrap (iShr .u32 e ((8 * 3 : Nat) : Int))]
 rw [hs 0 (by omega), hs 1 (by omega), hs 2 (by omega), hs 3 (by omega)]
 simp only [w8_eq]
 have := h.1
 refine List.cons_eq_cons.2 ⟨by omega, List.cons_eq_cons.2 ⟨by omega, List.cons_eq_cons.2 ⟨by omega, List.cons_eq_cons.2 ⟨by omega, rfl⟩⟩⟩⟩
theorem reflay_ok {w : World} {r : Rf} (h : r.Ok) : Ret Tryz.prog 51 #[.agg r.cells.toArray] w fun v w' => ∃ A c, v = .slice A 37 c ∧ OB w' w.heap.size A c (layR r) ∧ Ext w w' := by
 refine L_51 r.p r.e (By r.d) w _ (by simp [h.len]) ?_
 intro b1 w1 e1 e2
 have hB : Blk w1 b1 25 (([.int .i64 r.p, .int .u32 r.e] : List Value) ++ By r.d).toArray := Blk.new e1 e2
 have m1 : Ext w w1 := (Mod.refl _ _).alloc e2
 refine ⟨r.p, by rw [hB.cell]; rfl, ?_⟩
 intro b2 w2 e3 e4
 have m2 : Ext w1 w2 := (Mod.refl _ _).alloc e4
 have s1 := m1.size
 have hB2 := hB.ext m2
 have t1 := hB.lt
 have t2 : b2 < w2.heap.size := by rw [e4, e3]; simp
 have hw8 : IntKind.u8.wrap r.p = IntKind.u64.wrap r.p % 256 := by rw [w8_eq, w64_eq]; omega
 have hO : OX 5 .u8 w2 b2 (some ⟨b2, 0, none⟩) 1 (leB 1 (IntKind.u64.wrap r.p)) := by
  have := Own.new (w := w2) (e := 5) (size := 1) (n := 1) (cs := By (leB 1 (IntKind.u64.wrap r.p))) (g := b2) (by rfl) (by decide) (Nat.le_refl b2) (by
   have := Blk.new e3 e4
   rw [hw8] at this
   exact this)
  exact this
 have h4 := leB4_shr h.e
 generalize hfl : (fun i : Nat => IntKind.u8.wrap (iShr .u32 r.e ((8 * i : Nat) : Int))) = fl at *
 refine ⟨fun A n c x w3 => ∃ i : Nat, x = i ∧ i ≤ 4 ∧ n = 1 + i ∧ OX 5 .u8 w3 b2 A c (leB 1 (IntKind.u64.wrap r.p) ++ (List.range i).map fl) ∧ Mod (fun j => b2 ≤ j) w2 w3, fun _ _ _ x _ => (4 - x).toNat, ⟨0, rfl, by omega, rfl, by simpa using hO, Mod.refl _ _⟩, ?_⟩
 rintro A1 n1 c1 x4 w3 ⟨i, rfl, hi, rfl, o3, m3⟩
 have s3 := m3.size
 have hB3 := hB2.mod m3 (by omega)
 refine ⟨fun hlt => ?_, fun hge => ?_⟩
 ·have q1 : IntKind.i64.wrap (8 * (i : Int)) = ((8 * i : Nat) : Int) := by rw [wrap_i64 (by omega) (by omega)]; omega
  have q2 : IntKind.i64.wrap ((i : Int) + 1) = ((i + 1 : Nat) : Int) := wrap_i64 (by omega) (by omega)
  rw [q1, q2]
  refine ⟨r.e, by rw [hB3.cell]; rfl, by omega, ?_⟩
  intro b3 w4 e5 e6
  refine o3.push (by omega) (by simp [leB_length]) e5 e6 (by omega) (by decide) fun A2 c2 w5 o5 f5 => ⟨⟨i + 1, rfl, by omega, by omega, ?_, m3.trans f5⟩, by dsimp only; omega⟩
  rw [range_snoc, ← List.append_assoc]
  have : fl i = IntKind.u8.wrap (iShr .u32 r.e ((8 * i : Nat) : Int)) := by rw [← hfl]
  rw [this]
  exact o5
 ·obtain rfl : i = 4 := by omega
  rw [← h4] at o3
  refine ⟨by decide, by decide, by decide, by decide, ?_⟩
  intro A3 hA3
  rw [cutA_zero] at hA3
  have hr : RdS w3 A3 (By r.d) := .inr ⟨b1, 2, hA3, hB3.post rfl⟩
  refine o3.app (l2 := r.d) (by omega) (by rw [List.length_append, leB_length, leB_length]) (by rw [h.len]) hr (by omega) (by decide) fun A4 c3 w6 o6 f6 => ⟨A4, c3, rfl, o6.mono (by omega), ?_⟩
  exact Fro.ext ((Mod.of_ext (m1.trans m2)).trans ((m3.trans f6).mono fun j hj hb => by omega))
def sealB (key : List Int) (e x : Int) (page : List Int) : List Int := turnB key (nonceB e (IntKind.u64.wrap x)) 0 page
theorem sealB_length (key : List Int) (e x : Int) (page : List Int) : (sealB key e x page).length = page.length := turnB_length ..
theorem sealB_bytes (key : List Int) (e x : Int) (page : List Int) : Bytes (sealB key e x page) := turnB_bytes _ _ _ _
structure KeyOk (key : List Int) : Prop where
 len : key.length = 32
 b8 : Bytes key
section
variable {w : World} {key page : List Int} {e x : Int} {A : Option Addr} {n c : Nat}
theorem seal_ok (hk : KeyOk key) (hl : page.length = n) (hr : RdS w A (By page)) : Ret Tryz.prog 60 #[.agg (By key).toArray, .int .u32 e, .int .i64 x, .slice A n c] w fun v w' => Ext w w' ∧
  ((¬ (n = 256 ∧ 0 ≤ x) ∧ v = .tuple #[.slice none 0 0, .int .i64 1]) ∨ ((n = 256 ∧ 0 ≤ x) ∧ ∃ A' c', v = .tuple #[.slice A' 256 c', .int .i64 0] ∧ OX 5 .u8 w' w.heap.size A' c' (sealB key e x page))) := by
 refine L_60 (By key) e x A n c w _ (by simp [hk.len]) ?_
 intro b1 w1 e1 e2
 have hB : Blk w1 b1 22 (By key).toArray := Blk.new e1 e2
 have m1 : Ext w w1 := (Mod.refl _ _).alloc e2
 refine ⟨fun h => ⟨m1, .inl ⟨fun hh => h (by omega), rfl⟩⟩, fun h => ⟨fun h2 => ⟨m1, .inl ⟨fun hh => by omega, rfl⟩⟩, fun h2 => ?_⟩⟩
 obtain rfl : n = 256 := by omega
 intro w2 e3
 have m2 : Ext w1 w2 := (Mod.refl _ _).drew e3
 refine ⟨By key, by simp [hk.len], hB.range_all, (nonce_ok w2 e _).mono ?_⟩
 rintro v w3 ⟨rfl, m3⟩
 have m13 := m2.trans m3
 refine ⟨_, rfl, by simp [nonceB_length], m13.keep, (turnbytes_ok hk.len (nonceB_length ..) hk.b8 (nonceB_bytes _ _) ⟨by decide, by decide⟩ hl (((hr.ext m1).ext m13)) (by omega)).mono ?_⟩
 rintro v w4 ⟨A2, c2, rfl, o4, m4⟩
 have s1 := m1.size; have s13 := m13.size
 exact ⟨A2, 256, c2, rfl, (m1.trans m13).trans m4, .inr ⟨⟨rfl, by omega⟩, A2, c2, rfl, o4.mono (by omega)⟩⟩
theorem refseal_ok (hk : KeyOk key) (hl : page.length = n) (hr : RdS w A (By page)) : Ret Tryz.prog 52 #[.agg (By key).toArray, .int .u32 e, .int .i64 x, .slice A n c] w fun v w' => Ext w w' ∧
  ((¬ (n = 256 ∧ 0 ≤ x) ∧ v = .tuple #[.slice none 0 0, .int .i64 1]) ∨ ((n = 256 ∧ 0 ≤ x) ∧ ∃ A' c', v = .tuple #[.slice A' 256 c', .int .i64 0] ∧ OX 5 .u8 w' w.heap.size A' c' (sealB key e x page))) := by
 refine L_52 (By key) e x A n c w _ (by simp [hk.len]) ?_
 intro b1 w1 e1 e2
 have hB : Blk w1 b1 22 (By key).toArray := Blk.new e1 e2
 have m1 : Ext w w1 := (Mod.refl _ _).alloc e2
 refine ⟨fun h => ⟨m1, .inl ⟨fun hh => h (by omega), rfl⟩⟩, fun h => ⟨fun h2 => ⟨m1, .inl ⟨fun hh => by omega, rfl⟩⟩, fun h2 => ?_⟩⟩
 obtain rfl : n = 256 := by omega
 intro w2 e3
 have m2 : Ext w1 w2 := (Mod.refl _ _).drew e3
 refine ⟨By key, by simp [hk.len], hB.range_all, (refnonce_ok w2 e _).mono ?_⟩
 rintro v w3 ⟨rfl, m3⟩
 have m13 := m2.trans m3
 refine ⟨_, rfl, by simp [nonceB_length], m13.keep, (refturn_ok hk.len (nonceB_length ..) hk.b8 (nonceB_bytes _ _) ⟨by decide, by decide⟩ hl (((hr.ext m1).ext m13)) (by omega)).mono ?_⟩
 rintro v w4 ⟨A2, c2, rfl, o4, m4⟩
 have s1 := m1.size; have s13 := m13.size
 exact ⟨A2, 256, c2, rfl, (m1.trans m13).trans m4, .inr ⟨⟨rfl, by omega⟩, A2, c2, rfl, o4.mono (by omega)⟩⟩
theorem digest_ok (hl : page.length = n) (hr : RdS w A (By page)) (h8 : Bytes page) (few : n ≤ 900000) : Ret Tryz.prog 62 #[.pointer none, .slice A n c] w fun v w' => v = .agg (By (shaL page)).toArray ∧ Ext w w' := by
 refine L_62 none A n c w _ ?_
 intro b1 w1 e1 e2
 have hB : Blk w1 b1 22 (List.replicate 32 (.int .u8 0 : Value)).toArray := Blk.new e1 e2
 have m1 : Ext w w1 := (Mod.refl _ _).alloc e2
 refine ⟨fun h => absurd rfl h, fun _ => ?_⟩
 intro b6 w13 e3 e4
 have m2 : Ext w1 w13 := (Mod.refl _ _).alloc e4
 have hB6 := Blk.new e3 e4
 refine (sha_ok (.inr ⟨b6, 0, rfl, hB6.range_all⟩) hl ((hr.ext m1).ext m2) h8 few).mono ?_
 rintro v w14 ⟨rfl, m3⟩
 refine ⟨_, rfl, by simp [shaL_length], by simp [shaL_length], One_By _, lay_ok ((hB.ext m2).ext m3) (by simp [shaL_length]) (by simp) fun w15 h15 m15 => ⟨By (shaL page), by simp [shaL_length], h15.range_all, rfl, ?_⟩⟩
 have := m1.size
 exact Fro.ext ((Mod.of_ext ((m1.trans m2).trans m3)).trans (m15.mono fun k hk he => by omega))
theorem isplace_ok (w : World) (p : Int) : Ret Tryz.prog 61 #[.int .i64 p] w fun v w' => v = .bool (decide (p = 0 ∨ p = 1)) ∧ w' = w := by
 refine L_61 p w _ ⟨fun h => ⟨by simp [h], rfl⟩, fun h => ⟨?_, rfl⟩⟩
 congr 1
 by_cases h1 : p = 1
 ·subst h1; rfl
 ·have h2 : (p == 1) = false := beq_false_of_ne h1
  rw [h2]; symm; rw [decide_eq_false_iff_not]; omega
def hideOk (n : Nat) (x p : Int) : Prop := (n = 256 ∧ 0 ≤ x) ∧ (p = 0 ∨ p = 1)
theorem hide_ok {p : Int} (hk : KeyOk key) (hl : page.length = n) (hr : RdS w A (By page)) : Ret Tryz.prog 46 #[.pointer none, .agg (By key).toArray, .int .u32 e, .int .i64 p, .int .i64 x, .slice A n c] w fun v w' => Ext w w' ∧
  ((¬ hideOk n x p ∧ v = .tuple #[.slice none 0 0, .agg rf0.cells.toArray, .int .i64 1]) ∨ (hideOk n x p ∧ ∃ A' c', v = .tuple #[.slice A' 256 c', .agg (Rf.cells ⟨p, e, shaL (sealB key e x page)⟩).toArray, .int .i64 0] ∧ OX 5 .u8 w' w.heap.size A' c' (sealB key e x page))) := by
 refine L_46 none (By key) e p x A n c w _ (by simp [hk.len]) ?_
 intro b1 w1 e1 e2 b2 w2 e3 e4
 have hB1 : Blk w1 b1 22 (By key).toArray := Blk.new e1 e2
 have m1 : Ext w w1 := (Mod.refl _ _).alloc e2
 have m2 : Ext w1 w2 := (Mod.refl _ _).alloc e4
 have s1 := m1.size
 have hB2 : Blk w2 b2 46 rf0.cells.toArray := Blk.new e3 e4
 have hfin : ∀ w3, Ext w2 w3 → ¬ hideOk n x p → w3.there b2 0 34 ∧ ∀ w4, w4 = w3.setCells b2 0 (([.int .i64 0, .int .u32 0] : List Value) ++ (List.replicate 32 (.int .u8 0 : Value))) →
   ∃ (x5 : Int) (x6 : Int) (d3 : List Value), d3.length = 32 ∧ w4.rangeAt b2 0 (([.int .i64 x5, .int .u32 x6] : List Value) ++ d3) ∧ (Ext w w4 ∧
    ((¬ hideOk n x p ∧ (.tuple #[.slice none 0 0, .agg (([.int .i64 x5, .int .u32 x6] : List Value) ++ d3).toArray, .int .i64 1] : Value) = .tuple #[.slice none 0 0, .agg rf0.cells.toArray, .int .i64 1]) ∨
    (hideOk n x p ∧ ∃ A' c', (.tuple #[.slice none 0 0, .agg (([.int .i64 x5, .int .u32 x6] : List Value) ++ d3).toArray, .int .i64 1] : Value) = .tuple #[.slice A' 256 c', .agg (Rf.cells ⟨p, e, shaL (sealB key e x page)⟩).toArray, .int .i64 0] ∧ OX 5 .u8 w4 w.heap.size A' c' (sealB key e x page)))) := fun w3 m3 hno =>
  lay_ok (hB2.ext m3) (by rfl) (by rfl) fun w4 h4 m4 => ⟨0, 0, _, by simp, h4.range_all, Fro.ext ((Mod.of_ext ((m1.trans m2).trans m3)).trans (m4.mono fun k hk he => by omega)), .inl ⟨hno, rfl⟩⟩
 refine ⟨By key, by simp [hk.len], (hB1.ext m2).range_all, (seal_ok hk hl ((hr.ext m1).ext m2)).mono ?_⟩
 rintro v w3 ⟨m3, ⟨hno, rfl⟩ | ⟨hyes, A2, c2, rfl, o3⟩⟩
 ·exact ⟨none, 0, 0, 1, rfl, fun _ => hfin w3 m3 (fun hh => hno hh.1), fun h => by cases h⟩
 refine ⟨A2, 256, c2, 0, rfl, fun h => absurd rfl h, fun _ => (isplace_ok w3 p).mono ?_⟩
 rintro v w5 ⟨rfl, rfl⟩
 refine ⟨_, rfl, fun hf => hfin w5 m3 (fun hh => of_decide_eq_false hf hh.2), fun ht => ?_⟩
 have hp := of_decide_eq_true ht
 obtain ⟨rfl, hx⟩ := hyes
 refine (digest_ok (by rw [sealB_length, hl]) o3.rd (sealB_bytes _ _ _ _) (by omega)).mono ?_
 rintro v w7 ⟨rfl, m7⟩
 have hrl : (Rf.cells ⟨p, e, shaL (sealB key e x page)⟩).length = 34 := by simp [Rf.cells, shaL_length]
 refine ⟨_, rfl, by simp [shaL_length], hrl, Rf.one ⟨p, e, _⟩, lay_ok ((hB2.ext m3).ext m7) hrl (by rfl) fun w8 h8 m8 => ⟨p, e, By (shaL (sealB key e x page)), by simp [shaL_length], h8.range_all, ?_, .inr ⟨⟨⟨rfl, hx⟩, hp⟩, A2, c2, rfl, ?_⟩⟩⟩
 ·exact Fro.ext ((Mod.of_ext (((m1.trans m2).trans m3).trans m7)).trans (m8.mono fun k hk he => by omega))
 ·have s2 := m2.size
  refine OX.mono (OX.mod (o3.ext m7) m8 fun j hj he => ?_) (by omega)
  have := hB2.lt; omega
theorem refhide_ok {p : Int} (hk : KeyOk key) (hl : page.length = n) (hr : RdS w A (By page)) : Ret Tryz.prog 33 #[.agg (By key).toArray, .int .u32 e, .int .i64 p, .int .i64 x, .slice A n c] w fun v w' => Ext w w' ∧
  ((¬ hideOk n x p ∧ v = .tuple #[.slice none 0 0, .agg rf0.cells.toArray, .int .i64 1]) ∨ (hideOk n x p ∧ ∃ A' c', v = .tuple #[.slice A' 256 c', .agg (Rf.cells ⟨p, e, shaL (sealB key e x page)⟩).toArray, .int .i64 0] ∧ OX 5 .u8 w' w.heap.size A' c' (sealB key e x page))) := by
 refine L_33 (By key) e p x A n c w _ (by simp [hk.len]) ?_
 intro b1 w1 e1 e2 b2 w2 e3 e4
 have hB1 : Blk w1 b1 22 (By key).toArray := Blk.new e1 e2
 have m1 : Ext w w1 := (Mod.refl _ _).alloc e2
 have m2 : Ext w1 w2 := (Mod.refl _ _).alloc e4
 have s1 := m1.size
 have hB2 : Blk w2 b2 25 rf0.cells.toArray := Blk.new e3 e4
 have hfin : ∀ w3, Ext w2 w3 → ¬ hideOk n x p → w3.there b2 0 34 ∧ ∀ w4, w4 = w3.setCells b2 0 (([.int .i64 0, .int .u32 0] : List Value) ++ (List.replicate 32 (.int .u8 0 : Value))) →
   ∃ (x5 : Int) (x6 : Int) (d3 : List Value), d3.length = 32 ∧ w4.rangeAt b2 0 (([.int .i64 x5, .int .u32 x6] : List Value) ++ d3) ∧ (Ext w w4 ∧
    ((¬ hideOk n x p ∧ (.tuple #[.slice none 0 0, .agg (([.int .i64 x5, .int .u32 x6] : List Value) ++ d3).toArray, .int .i64 1] : Value) = .tuple #[.slice none 0 0, .agg rf0.cells.toArray, .int .i64 1]) ∨
    (hideOk n x p ∧ ∃ A' c', (.tuple #[.slice none 0 0, .agg (([.int .i64 x5, .int .u32 x6] : List Value) ++ d3).toArray, .int .i64 1] : Value) = .tuple #[.slice A' 256 c', .agg (Rf.cells ⟨p, e, shaL (sealB key e x page)⟩).toArray, .int .i64 0] ∧ OX 5 .u8 w4 w.heap.size A' c' (sealB key e x page)))) := fun w3 m3 hno =>
  lay_ok (hB2.ext m3) (by rfl) (by rfl) fun w4 h4 m4 => ⟨0, 0, _, by simp, h4.range_all, Fro.ext ((Mod.of_ext ((m1.trans m2).trans m3)).trans (m4.mono fun k hk he => by omega)), .inl ⟨hno, rfl⟩⟩
 refine ⟨By key, by simp [hk.len], (hB1.ext m2).range_all, (refseal_ok hk hl ((hr.ext m1).ext m2)).mono ?_⟩
 rintro v w3 ⟨m3, ⟨hno, rfl⟩ | ⟨hyes, A2, c2, rfl, o3⟩⟩
 ·exact ⟨none, 0, 0, 1, rfl, fun _ => hfin w3 m3 (fun hh => hno hh.1), fun h => by cases h⟩
 refine ⟨A2, 256, c2, 0, rfl, fun h => absurd rfl h, fun _ => ⟨fun h => hfin w3 m3 (fun hh => by have := hh.2; omega), fun h => ⟨fun h2 => hfin w3 m3 (fun hh => by have := hh.2; omega), fun h2 => ?_⟩⟩⟩
 have hp : p = 0 ∨ p = 1 := by omega
 obtain ⟨rfl, hx⟩ := hyes
 refine (refsha_ok (by rw [sealB_length, hl]) o3.rd (sealB_bytes _ _ _ _) (by omega)).mono ?_
 rintro v w7 ⟨rfl, m7⟩
 have hrl : (Rf.cells ⟨p, e, shaL (sealB key e x page)⟩).length = 34 := by simp [Rf.cells, shaL_length]
 refine ⟨_, rfl, by simp [shaL_length], hrl, Rf.one ⟨p, e, _⟩, lay_ok ((hB2.ext m3).ext m7) hrl (by rfl) fun w8 h8 m8 => ⟨p, e, By (shaL (sealB key e x page)), by simp [shaL_length], h8.range_all, ?_, .inr ⟨⟨⟨rfl, hx⟩, hp⟩, A2, c2, rfl, ?_⟩⟩⟩
 ·exact Fro.ext ((Mod.of_ext (((m1.trans m2).trans m3).trans m7)).trans (m8.mono fun k hk he => by omega))
 ·have s2 := m2.size
  refine OX.mono (OX.mod (o3.ext m7) m8 fun j hj he => ?_) (by omega)
  have := hB2.lt; omega
end
end Go.Proofs.YtpkfdhlkknanmaaGreat
