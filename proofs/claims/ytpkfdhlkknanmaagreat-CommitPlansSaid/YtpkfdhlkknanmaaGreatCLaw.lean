/-
 The law's own functions: far, full, changed, theirs, puts, same.
-/
import Derived.Test.YtpkfdhlkknanmaaGreatRefEq
set_option linter.all false
namespace Go.Proofs.YtpkfdhlkknanmaaGreat
open Go Go.RowKit Go.Proofs
section
variable {w : World} {A1 A2 : Option Addr} {n1 c1 n2 c2 : Nat} {l : List (Int × List Rf)} {cs : List (Int × List Int)}
theorem pair_in {w : World} {t : TypeId} {x : Int} {A : Option Addr} {n c b2 : Nat} {w2 : World} (e1 : b2 = w.heap.size) (e2 : w2 = w.alloc (.cells ([.int .i64 0, .slice none 0 0] : List Value).toArray t)) {K : World → Prop}
  (hK : ∀ w3, Blk w3 b2 t ([.int .i64 x, .slice A n c] : List Value).toArray → Ext w w3 → w2.heap.size ≤ w3.heap.size → K w3) : w2.there b2 0 2 ∧ ∀ w3, w3 = w2.setCells b2 0 ([.int .i64 x, .slice A n c] : List Value) → K w3 := by
 have hB : Blk w2 b2 t ([.int .i64 0, .slice none 0 0] : List Value).toArray := Blk.new e1 e2
 have m : Ext w w2 := (Mod.refl _ _).alloc e2
 exact lay_ok hB (by rfl) (by rfl) fun w3 h3 m3 => hK w3 h3 (Fro.ext ((Mod.of_ext m).trans (m3.mono fun k _ hk => by omega))) m3.size
set_option maxHeartbeats 1000000 in
theorem far_ok (hn : PrS Rc w A1 l) (hl : l.length = n1) (hc : PrS By w A2 cs) (hcl : cs.length = n2) : Ret Tryz.prog 6 #[.slice A1 n1 c1, .slice A2 n2 c2] w fun v w' => Ext w w' ∧ ∃ q : Bool, v = .bool q ∧
  (q = false → l.length ≤ 60 ∧ cs.length ≤ 20 ∧ (∀ x ∈ l, x.2.length ≤ 20) ∧ ∀ c ∈ cs, c.2.length ≤ 600) := by
 subst hl; subst hcl
 refine L_6 A1 l.length c1 A2 cs.length c2 w _ ⟨fun _ => ⟨Mod.refl _ _, true, rfl, (fun h => by cases h)⟩, fun h60 => ⟨fun _ => ⟨Mod.refl _ _, true, rfl, (fun h => by cases h)⟩, fun h20 => ?_⟩⟩
 refine ⟨fun x w1 => ∃ i : Nat, x = i ∧ i ≤ l.length ∧ (∀ y ∈ l.take i, y.2.length ≤ 20) ∧ Ext w w1, fun x _ => l.length - x.toNat, ⟨0, rfl, by omega, by simp, Mod.refl _ _⟩, ?_⟩
 rintro x w1 ⟨i, rfl, hi, hall, m1⟩
 refine ⟨fun hlt => ?_, fun hge => ?_⟩
 ·obtain ⟨y, hy⟩ : ∃ y, l[i]? = some y := ⟨_, List.getElem?_eq_getElem (by omega)⟩
  obtain ⟨b, o, A', c', hA, hr, _⟩ := (hn.ext m1).at hy
  refine ⟨b, o, hA, by omega, by omega, y.1, A', _, c', hr, fun b2 w2 e1 e2 => pair_in e1 e2 fun w3 h3 m3 _ => ⟨A', _, c', by rw [h3.cell]; rfl, fun _ => ⟨m1.trans m3, true, rfl, (fun h => by cases h)⟩, fun hle => ?_⟩⟩
  refine ⟨⟨i + 1, by rw [wrap_i64 (by omega) (by omega)]; rfl, by omega, fun z hz => ?_, m1.trans m3⟩, by rw [wrap_i64 (by omega) (by omega)]; dsimp only; omega⟩
  rw [List.take_succ, hy] at hz
  simp only [Option.toList_some, List.mem_append, List.mem_singleton] at hz
  rcases hz with hz | rfl
  ·exact hall z hz
  ·omega
 ·obtain rfl : i = l.length := by omega
  rw [List.take_length] at hall
  refine ⟨fun x w4 => ∃ i : Nat, x = i ∧ i ≤ cs.length ∧ (∀ y ∈ cs.take i, y.2.length ≤ 600) ∧ Ext w w4, fun x _ => cs.length - x.toNat, ⟨0, rfl, by omega, by simp, m1⟩, ?_⟩
  rintro x w4 ⟨i, rfl, hi2, hall2, m4⟩
  refine ⟨fun hlt => ?_, fun hge2 => ?_⟩
  ·obtain ⟨y, hy⟩ : ∃ y, cs[i]? = some y := ⟨_, List.getElem?_eq_getElem (by omega)⟩
   obtain ⟨b, o, A', c', hA, hr, _⟩ := (hc.ext m4).at hy
   refine ⟨b, o, hA, by omega, by omega, y.1, A', _, c', hr, fun b2 w2 e1 e2 => pair_in e1 e2 fun w3 h3 m3 _ => ⟨A', _, c', by rw [h3.cell]; rfl, fun _ => ⟨m4.trans m3, true, rfl, (fun h => by cases h)⟩, fun hle => ?_⟩⟩
   refine ⟨⟨i + 1, by rw [wrap_i64 (by omega) (by omega)]; rfl, by omega, fun z hz => ?_, m4.trans m3⟩, by rw [wrap_i64 (by omega) (by omega)]; dsimp only; omega⟩
   rw [List.take_succ, hy] at hz
   simp only [Option.toList_some, List.mem_append, List.mem_singleton] at hz
   rcases hz with hz | rfl
   ·exact hall2 z hz
   ·omega
  ·obtain rfl : i = cs.length := by omega
   rw [List.take_length] at hall2
   exact ⟨m4, false, rfl, fun _ => ⟨by omega, by omega, hall, hall2⟩⟩
def pad (l : List Int) : List Int := l.take 256 ++ List.replicate (256 - l.length) 0
theorem pad_len (l : List Int) : (pad l).length = 256 := by simp [pad]; omega
set_option maxHeartbeats 1000000 in
theorem full_ok (hc : PrS By w A1 cs) (hcl : cs.length = n1) (few : n1 ≤ 1000) : Ret Tryz.prog 8 #[.slice A1 n1 c1] w fun v w' => Ext w w' ∧ ∃ A' c', v = .slice A' n1 c' ∧
  PrO 64 5 1 By w' w.heap.size A' c' (cs.map fun c => (c.1, pad c.2)) := by
 subst hcl
 refine L_8 A1 cs.length c1 w _ ?_
 refine ⟨fun A2 n2 c2 x w1 => ∃ i : Nat, x = i ∧ i ≤ cs.length ∧ n2 = i ∧ PrO 64 5 1 By w1 w.heap.size A2 c2 ((cs.take i).map fun c => (c.1, pad c.2)) ∧ Ext w w1, fun _ _ _ x _ => cs.length - x.toNat, ⟨0, rfl, by omega, rfl, PrO.nil _ _, Mod.refl _ _⟩, ?_⟩
 rintro A2 n2 c2 x w1 ⟨i, rfl, hi, rfl, hp, m1⟩
 have s1 := m1.size
 refine ⟨fun hlt => ?_, fun hge => ?_⟩
 ·obtain ⟨y, hy⟩ : ∃ y, cs[n2]? = some y := ⟨_, List.getElem?_eq_getElem (by omega)⟩
  obtain ⟨b, o, A', c', hA, hr, hrd⟩ := (hc.ext m1).at hy
  refine ⟨b, o, hA, by omega, by omega, y.1, A', _, c', hr, fun b2 w2 e1 e2 => pair_in e1 e2 fun w3 h3 m3 s23 => ?_⟩
  refine ⟨by decide, by decide, by decide, fun b3 w4 e3 e4 => ?_⟩
  rw [Nat.mul_one, madeCells_eq] at e4
  have hB4 : Blk w4 b3 5 (List.replicate 256 (.int .u8 0 : Value)).toArray := Blk.new e3 e4
  have m4 : Ext w3 w4 := (Mod.refl _ _).alloc e4
  have m14 := m3.trans m4
  have hl1 : ((By y.2).take 256).length = Nat.min y.2.length 256 * 1 := by
   rw [List.length_take, By_length, Nat.mul_one, Nat.min_comm]
  have hl2 : ((By y.2).take 256).length ≤ 256 := by rw [List.length_take]; omega
  refine ⟨A', _, c', by rw [(h3.ext m4).cell]; rfl, (By y.2).take 256, hl1, ((hrd.ext m14).take 256), fun v hv => One_By _ v (List.mem_of_mem_take hv), .inr ⟨b3, 0, rfl, hB4.there (by rw [List.size_toArray, List.length_replicate]; omega)⟩, fun w5 e5 => ?_⟩
  have e5' : w5 = w4.setCells b3 0 ((By y.2).take 256) := by rw [e5]; simp [puts]
  have hB5 := Blk.sets (t := 5) ((By y.2).take 256) 0 w4 _ hB4 (by rw [List.length_replicate]; omega)
  rw [← e5'] at hB5
  have hpadB : (List.take 0 (List.replicate 256 (.int .u8 0 : Value)) ++ (By y.2).take 256 ++ List.drop (0 + ((By y.2).take 256).length) (List.replicate 256 (.int .u8 0 : Value))) = By (pad y.2) := by
   rw [List.take_zero, List.nil_append, List.drop_replicate, Nat.zero_add, List.length_take, By_length]
   unfold pad
   rw [By_append, ← By_take]
   congr 1
   unfold By
   rw [List.map_replicate]
   congr 1
   omega
  rw [hpadB] at hB5
  have m5' : Mod (fun j => j = b3) w4 w5 := (Mod.refl _ _).sets (.inr rfl) e5'
  have s3 := m3.size
  have s5 := m5'.size
  have s14 := m14.size
  have m5 : Ext w1 w5 := Fro.ext ((Mod.of_ext m14).trans (m5'.mono fun j _ e => by omega))
  have b23 : b2 ≠ b3 := by have := h3.lt; omega
  have o5 : Own w5 w.heap.size 5 1 (some ⟨b3, 0, none⟩) 256 256 (By (pad y.2)) := Own.new (by rw [By_length, pad_len]) (by decide) (by omega) hB5
  refine ⟨y.1, by rw [((h3.ext m4).mod m5' b23).cell]; rfl, fun b4 w6 e6 e7 => ?_⟩
  refine (hp.ext m5).push (x := (y.1, pad y.2)) (by have := m5.size; omega) (by simp; omega) e6 e7 (pad_len _) o5 (by decide) rfl (by omega) (by decide) fun A5 c5 w7 hp7 m7 => ?_
  refine ⟨⟨n2 + 1, by rw [wrap_i64 (by omega) (by omega)]; rfl, by omega, rfl, ?_, ?_⟩, by rw [wrap_i64 (by omega) (by omega)]; dsimp only; omega⟩
  ·rw [List.take_succ, hy]
   simpa using hp7
  ·exact Fro.ext ((Mod.of_ext (m1.trans m5)).trans (m7.mono fun j _ h => h.1))
 ·obtain rfl : n2 = cs.length := by omega
  rw [List.take_length] at hp
  exact ⟨m1, A2, c2, rfl, hp⟩
set_option maxHeartbeats 1000000 in
theorem changed_ok (hc : PrS By w A1 cs) (hcl : cs.length = n1) (few : n1 ≤ 1000) : Ret Tryz.prog 11 #[.slice A1 n1 c1] w fun v w' => Ext w w' ∧ ∃ A' c', v = .slice A' n1 c' ∧ PrS By w' A' cs := by
 subst hcl
 refine L_11 A1 cs.length c1 w _ ?_
 obtain ⟨ps, p1, p2, p3⟩ := hc
 refine ⟨fun A2 n2 c2 x w1 => ∃ i : Nat, x = i ∧ i ≤ cs.length ∧ n2 = i ∧ Own w1 w.heap.size 68 2 A2 n2 c2 (Pc (ps.take i)) ∧ Ext w w1, fun _ _ _ x _ => cs.length - x.toNat, ⟨0, rfl, by omega, rfl, own_nil _ _ _ _, Mod.refl _ _⟩, ?_⟩
 rintro A2 n2 c2 x w1 ⟨i, rfl, hi, rfl, hp, m1⟩
 have s1 := m1.size
 refine ⟨fun hlt => ?_, fun hge => ?_⟩
 ·obtain ⟨p, hpp⟩ : ∃ p, ps[n2]? = some p := ⟨_, List.getElem?_eq_getElem (by omega)⟩
  have hrow : ∃ b o, A1 = some ⟨b, o, none⟩ ∧ w1.rangeAt b (o + ((n2 : Int)).toNat * 2) p.cells := by
   rcases p2.ext m1 with h | ⟨b, o, e, hr⟩
   ·have := Pc_length ps
    rw [h, List.length_nil] at this; omega
   ·refine ⟨b, o, e, fun j v hj => ?_⟩
    rw [Int.toNat_natCast]
    have := hr _ v (Pc_get hpp j v hj)
    rwa [← Nat.add_assoc] at this
  obtain ⟨b, o, hA, hr⟩ := hrow
  refine ⟨b, o, hA, by omega, by omega, p.k, p.A, p.n, p.c, hr, fun b2 w2 e1 e2 => pair_in e1 e2 fun w3 h3 m3 _ => ⟨p.k, by rw [h3.cell]; rfl, p.A, p.n, p.c, by rw [h3.cell]; rfl, fun b3 w4 e3 e4 => ?_⟩⟩
  have m4 : Ext w3 w4 := (Mod.refl _ _).alloc e4
  have hB4 : Blk w4 b3 68 p.cells.toArray := Blk.new e3 e4
  have o4 := Own.ext hp (m3.trans m4) fun _ _ _ => id
  have hpl : (ps.take n2).length = n2 := by rw [List.length_take]; omega
  refine ⟨Pc (ps.take n2), p.cells, by omega, by rw [Pc_length, hpl], (Own.rd o4).rd, rfl, .inr ⟨b3, 0, rfl, hB4.range_all⟩, p.one, fun h => Own.room o4 h, fun A5 c5 w5 ha => ?_⟩
  have s4 := (m3.trans m4).size
  obtain ⟨o5, f5⟩ := Own.fro o4 rfl rfl (by omega) ha
  refine ⟨⟨n2 + 1, by rw [wrap_i64 (by omega) (by omega)]; rfl, by omega, rfl, ?_, ?_⟩, by rw [wrap_i64 (by omega) (by omega)]; dsimp only; omega⟩
  ·have : Pc (ps.take (n2 + 1)) = Pc (ps.take n2) ++ p.cells := by
    rw [List.take_succ, hpp, Pc_append]
    congr 1
   rw [this]; exact o5
  ·exact Fro.ext ((Mod.of_ext (m1.trans (m3.trans m4))).trans f5)
 ·obtain rfl : n2 = cs.length := by omega
  rw [List.take_of_length_le (by omega)] at hp
  refine ⟨m1, A2, c2, rfl, ps, p1, (Own.rd hp).rd, fun i p x hp hx => ?_⟩
  obtain ⟨a, b, c⟩ := p3 i p x hp hx
  exact ⟨a, b, c.ext m1⟩
set_option maxHeartbeats 2000000 in
theorem theirs_ok (hn : PrS Rc w A1 l) (hl : l.length = n1) (hok : NdOk l) (few : n1 ≤ 1000) : Ret Tryz.prog 10 #[.slice A1 n1 c1] w fun v w' => Ext w w' ∧ ∃ A' c', v = .slice A' n1 c' ∧ PrO 67 46 34 Rc w' w.heap.size A' c' l := by
 subst hl
 refine L_10 A1 l.length c1 w _ ?_
 refine ⟨fun A2 n2 c2 x w1 => ∃ i : Nat, x = i ∧ i ≤ l.length ∧ n2 = i ∧ PrO 67 46 34 Rc w1 w.heap.size A2 c2 (l.take i) ∧ Ext w w1, fun _ _ _ x _ => l.length - x.toNat, ⟨0, rfl, by omega, rfl, PrO.nil _ _, Mod.refl _ _⟩, ?_⟩
 rintro A2 n2 c2 x w1 ⟨i, rfl, hi, rfl, hp, m1⟩
 have s1 := m1.size
 refine ⟨fun hlt => ?_, fun hge => ?_⟩
 ·obtain ⟨y, hy⟩ : ∃ y, l[n2]? = some y := ⟨_, List.getElem?_eq_getElem (by omega)⟩
  obtain ⟨hyok, hy1000⟩ := hok y (List.mem_of_getElem? hy)
  obtain ⟨b, o, A', c', hA, hr, hrd⟩ := (hn.ext m1).at hy
  refine ⟨b, o, hA, by omega, by omega, y.1, A', _, c', hr, fun b2 w2 e1 e2 => pair_in e1 e2 fun w3 h3 m3 _ => ⟨y.1, by rw [h3.cell]; rfl, fun b3 w4 e3 e4 => pair_in e3 e4 fun w5 h5 m5 _ => ⟨A', _, c', by rw [(h3.ext m5).cell]; rfl, ?_⟩⟩⟩
  have l5 := h5.lt
  have s3 := m3.size
  have s5 := m5.size
  have m15 := m3.trans m5
  refine ⟨fun z w6 => ∃ k : Nat, z = k ∧ k ≤ y.2.length ∧ ∃ A5 c5, Blk w6 b3 67 ([.int .i64 y.1, .slice A5 k c5] : List Value).toArray ∧ OR 46 w6 w5.heap.size A5 c5 (y.2.take k) ∧ Mod (fun j => j = b3) w5 w6, fun z _ => y.2.length - z.toNat,
   ⟨0, rfl, by omega, none, 0, h5, own_nil _ _ _ _, Mod.refl _ _⟩, ?_⟩
  rintro z w6 ⟨k, rfl, hk, A5, c5, h6, o6, m6⟩
  have m16 : Ext w1 w6 := Fro.ext ((Mod.of_ext m15).trans (m6.mono fun j _ e => by omega))
  have s6 := m6.size
  have s16 := m16.size
  refine ⟨fun hlt2 => ?_, fun hge2 => ?_⟩
  ·obtain ⟨b4, o2, hA4, hrow⟩ := (hrd.ext m16).refs hyok (by omega)
   obtain ⟨r, hri⟩ : ∃ r, y.2[k]? = some r := ⟨_, List.getElem?_eq_getElem (by omega)⟩
   have hrok := hyok r (List.mem_of_getElem? hri)
   refine ⟨b4, o2, hA4, by omega, by omega, r.p, r.e, By r.d, by simp [hrok.len], hrow k r hri, fun b5 w7 e5 e6 => ?_⟩
   have hB7 : Blk w7 b5 25 rf0.cells.toArray := Blk.new e5 e6
   have m7 : Ext w6 w7 := (Mod.refl _ _).alloc e6
   refine ⟨hrok.clen, r.one, lay_ok hB7 hrok.clen (by rfl) fun w8 h8 m8' => ?_⟩
   have m8 : Ext w6 w8 := Fro.ext ((Mod.of_ext m7).trans (m8'.mono fun j _ e => by omega))
   refine ⟨A5, k, c5, by rw [(h6.ext m8).cell]; rfl, r.p, r.e, By r.d, by simp [hrok.len], h8.range_all, fun b6 w9 e7 e8 => ?_⟩
   have m9 : Ext w8 w9 := (Mod.refl _ _).alloc e8
   have hB9 : Blk w9 b6 46 r.cells.toArray := Blk.new e7 e8
   have m69 := m8.trans m9
   have s69 := m69.size
   have o9 := OR.ext o6 m69
   unfold OR at o9
   have hkl : (y.2.take k).length = k := by rw [List.length_take]; omega
   rw [hkl] at o9
   refine ⟨Rc (y.2.take k), r.cells, by omega, by rw [← o9.len], (Own.rd o9).rd, hrok.clen, .inr ⟨b6, 0, rfl, hB9.range_all⟩, r.one, fun h => Own.room o9 h, fun A6 c6 w10 ha => ?_⟩
   obtain ⟨g1, g2, g3⟩ := Own.app o9 rfl hrok.clen (by omega) ha
   have hb3 : ¬ ∃ o, A5 = some ⟨b3, o, none⟩ := fun ⟨o, e⟩ => by have := (Own.base o9 b3 o e).1; omega
   have h10 := (h6.ext m69).mod g2 hb3
   refine ⟨by rw [h10.cell]; rfl, h10.frozen _, fun w11 e11 => ?_⟩
   have h11 := h10.set e11
   have m11 : Mod (fun j => j = b3) w10 w11 := (Mod.refl _ _).set (.inr rfl) e11
   refine ⟨⟨k + 1, by rw [wrap_i64 (by omega) (by omega)]; rfl, by omega, A6, c6, h11, ?_, ?_⟩, by rw [wrap_i64 (by omega) (by omega)]; dsimp only; omega⟩
   ·unfold OR
    have hkl2 : (y.2.take (k + 1)).length = k + 1 := by rw [List.length_take]; omega
    have : Rc (y.2.take (k + 1)) = Rc (y.2.take k) ++ r.cells := by
     rw [List.take_succ, hri, Rc_append]
     congr 1
     exact List.append_nil _
    rw [hkl2, this]
    exact Own.ext g1 m11 fun b o e e' => by
     have := (Own.base g1 b o e).1
     omega
   ·have : Mod (fun j => j = b3 ∨ w5.heap.size ≤ j) w5 w11 := (((m6.mono fun _ _ h => Or.inl h).ext m69).trans (g2.mono fun j _ ⟨o, e⟩ => .inr (Own.base o9 j o e).1)).trans (m11.mono fun _ _ h => .inl h)
    exact this.mono fun j hj h => h.resolve_right (by omega)
  ·obtain rfl : k = y.2.length := by omega
   rw [List.take_length] at o6
   refine ⟨y.1, A5, _, c5, h6.range_all, fun b7 w12 e7 e8 => ?_⟩
   refine (hp.ext m16).push (x := y) (by omega) (by rw [List.length_take]; omega) e7 e8 rfl (Own.mono o6 (by omega)) (by decide) rfl (by omega) (by decide) fun A8 c8 w13 hp13 m13 => ?_
   refine ⟨⟨n2 + 1, by rw [wrap_i64 (by omega) (by omega)]; rfl, by omega, rfl, ?_, ?_⟩, by rw [wrap_i64 (by omega) (by omega)]; dsimp only; omega⟩
   ·rw [List.take_succ, hy]
    simpa using hp13
   ·exact Fro.ext ((Mod.of_ext (m1.trans m16)).trans (m13.mono fun j _ h => h.1))
 ·obtain rfl : n2 = l.length := by omega
  rw [List.take_length] at hp
  exact ⟨m1, A2, c2, rfl, hp⟩
end
end Go.Proofs.YtpkfdhlkknanmaaGreat
