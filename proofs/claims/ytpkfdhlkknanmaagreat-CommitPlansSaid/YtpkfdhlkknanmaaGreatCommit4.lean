/-
 Commits: May, the program's and the document's.
-/
import Derived.Test.YtpkfdhlkknanmaaGreatCommit3
set_option linter.all false
namespace Go.Proofs.YtpkfdhlkknanmaaGreat
open Go Go.RowKit Go.Proofs
def OkAt (P : Nat) (cs : List (Int × List Int)) (i : Nat) : Prop := ∀ c, cs[i]? = some c → 0 ≤ c.1 ∧ c.1 < P ∧ c.2.length = 256 ∧ ∀ (j : Nat) d, j < i → cs[j]? = some d → d.1 < c.1
def NodeAt (P : Nat) (l : List (Int × List Rf)) (i : Nat) : Prop := ∃ rs, fnd l i = some rs ∧ rs.length = kidC P i ∧ ∀ r ∈ rs, PlOk r
structure MayN (P : Nat) (l : List (Int × List Rf)) (cs : List (Int × List Int)) : Prop where
 ch : ∀ i, OkAt P cs i
 nd : ∀ i ∈ needN P (pgs cs), NodeAt P l i
theorem kidsI_len {P i : Nat} (h : i < itm P) : (kidsI P i).length = kidC P i := by
 unfold kidsI
 rw [if_pos (by omega), Int.toNat_natCast, kidsN_len]
section
variable {w : World} {A1 A2 A3 : Option Addr} {n1 c1 n2 c2 n3 c3 P : Nat} {l : List (Int × List Rf)} {cs : List (Int × List Int)}
set_option maxHeartbeats 2000000 in
theorem may_ok (h : ShP w A1 n1 P) (hn : PrS Rc w A2 l) (hl : l.length = n2) (hok : NdOk l) (hc : PrS By w A3 cs) (hcl : cs.length = n3) (few : n2 ≤ 10000) (few3 : n3 ≤ 10000) :
  Ret Tryz.prog 16 #[.agg ([.slice A1 n1 c1] : List Value).toArray, .slice A2 n2 c2, .slice A3 n3 c3] w fun v w' => Ext w w' ∧ ∃ q : Bool, v = .bool q ∧ (q = true ↔ MayN P l cs) := by
 subst hcl
 refine L_16 A1 n1 c1 A2 n2 c2 A3 cs.length c3 w _ ?_
 intro b1 w1 e1 e2
 have hB : Blk w1 b1 32 ([.slice A1 n1 c1] : List Value).toArray := Blk.new e1 e2
 have m1 : Ext w w1 := (Mod.refl _ _).alloc e2
 refine ⟨fun last x w2 => ∃ i : Nat, x = i ∧ i ≤ cs.length ∧ (∀ j, j < i → OkAt P cs j) ∧ -1 ≤ last ∧ (∀ (j : Nat) d, j < i → cs[j]? = some d → d.1 ≤ last) ∧ (last = -1 ∨ ∃ (j : Nat) (d : Int × List Int), j < i ∧ cs[j]? = some d ∧ d.1 = last) ∧ Ext w1 w2, fun _ x _ => cs.length - x.toNat,
  ⟨0, rfl, by omega, fun j hj => absurd hj (by omega), by omega, fun j d hj => absurd hj (by omega), .inl rfl, Mod.refl _ _⟩, ?_⟩
 rintro last x w2 ⟨i, rfl, hi, hall, hlast, hle, hlv, m2⟩
 refine ⟨fun hlt => ?_, fun hge => ?_⟩
 ·obtain ⟨x, hx⟩ : ∃ x, cs[i]? = some x := ⟨_, List.getElem?_eq_getElem (by omega)⟩
  obtain ⟨b, o, A', c', hA, hr, _⟩ := (hc.ext (m1.trans m2)).at hx
  refine ⟨b, o, hA, by omega, by omega, x.1, A', _, c', hr, fun b3 w3 e3 e4 => ?_⟩
  have hB3 : Blk w3 b3 68 ([.int .i64 0, .slice none 0 0] : List Value).toArray := Blk.new e3 e4
  have m3 : Ext w2 w3 := (Mod.refl _ _).alloc e4
  refine ⟨hB3.there (by simp), fun w4 e5 w5 e6 => ?_⟩
  have hB4 := Blk.sets _ _ w3 _ hB3 (by simp : 0 + ([.int .i64 x.1, .slice A' x.2.length c'] : List Value).length ≤ _)
  rw [← e5] at hB4
  have m4 : Ext w2 w4 := m3.sets (.inl (by rw [e3]; exact Nat.le_refl _)) e5
  have m5 : Ext w4 w5 := (Mod.refl _ _).drew e6
  have m25 := m2.trans (m4.trans m5)
  have m15 := m1.trans m25
  refine ⟨x.1, by rw [hB4.cell]; rfl, fun hle1 => ⟨m15, _, rfl, ?_⟩, fun hgt => ?_⟩
  ·simp only [Bool.false_eq_true, false_iff]
   intro hm
   obtain ⟨h0, _, _, h4⟩ := hm.ch i x hx
   rcases hlv with rfl | ⟨j, d, hj, hd, rfl⟩
   ·omega
   ·have := h4 j d hj hd; omega
  ·refine ⟨x.1, by rw [hB4.cell]; rfl, A1, n1, c1, ((hB.ext m2).ext m4).range_all, (pages_ok (h.ext m15)).mono ?_⟩
   rintro v w6 ⟨rfl, m6⟩
   have m16 := m15.trans m6
   have m46 := m5.trans m6
   refine ⟨_, rfl, m46.keep, fun hge1 => ⟨m16, _, rfl, ?_⟩, fun hlt1 => ?_⟩
   ·simp only [Bool.false_eq_true, false_iff]
    intro hm
    obtain ⟨_, h1, _, _⟩ := hm.ch i x hx
    omega
   ·refine ⟨A', _, c', by rw [hB4.cell]; rfl, fun hne => ⟨m16, _, rfl, ?_⟩, fun heq => ⟨x.1, by rw [(hB4.ext m46).cell]; rfl, ⟨i + 1, by rw [wrap_i64 (by omega) (by omega)]; rfl, by omega, ?_, by omega, ?_, .inr ⟨i, x, by omega, hx, rfl⟩, (m25.trans m6)⟩, by rw [wrap_i64 (by omega) (by omega)]; dsimp only; omega⟩⟩
    ·simp only [Bool.false_eq_true, false_iff]
     intro hm
     obtain ⟨_, _, h2, _⟩ := hm.ch i x hx
     exact hne (by rw [h2]; rfl)
    ·intro j hj
     rcases Nat.lt_succ_iff_lt_or_eq.1 hj with hj | rfl
     ·exact hall j hj
     ·intro c hc'
      rw [hx] at hc'; cases hc'
      exact ⟨by omega, by omega, by omega, fun k d hk hd => by have := hle k d hk hd; omega⟩
    ·intro j d hj hd
     rcases Nat.lt_succ_iff_lt_or_eq.1 hj with hj | rfl
     ·have := hle j d hj hd; omega
     ·rw [hx] at hd; cases hd; omega
 ·obtain rfl : i = cs.length := by omega
  have hch : ∀ i, OkAt P cs i := fun i => by
   rcases Nat.lt_or_ge i cs.length with h | h
   ·exact hall i h
   ·intro c hc'; rw [List.getElem?_eq_none h] at hc'; cases hc'
  intro w7 e7
  have m7 : Ext w2 w7 := (Mod.refl _ _).drew e7
  have m17 := m1.trans (m2.trans m7)
  refine ⟨A1, n1, c1, (hB.ext m2).range_all, (cpages_ok (hc.ext m17) rfl (by omega)).mono ?_⟩
  rintro v w8 ⟨A8, c8, rfl, o8, m8⟩
  refine ⟨A8, _, c8, rfl, (m7.trans m8).keep, ?_⟩
  have m18 := m17.trans m8
  refine (need_ok (h.ext m18) o8.rd (by simp) (by omega)).mono ?_
  rintro v w9 ⟨A9, c9, rfl, o9, m9⟩
  have m19 := m18.trans m9
  have hpg : (cs.map (·.1)) = pgs cs := rfl
  rw [hpg] at o9 ⊢
  have hnl := need_len h.ok (pgs cs)
  refine ⟨A9, _, c9, rfl, fun x w10 => ∃ i : Nat, x = i ∧ i ≤ (needN P (pgs cs)).length ∧ (∀ j ∈ (needN P (pgs cs)).take i, NodeAt P l j) ∧ Ext w9 w10, fun x _ => 300 - x.toNat, ⟨0, rfl, by omega, by simp, Mod.refl _ _⟩, ?_⟩
  rintro x w10 ⟨i, rfl, hi2, hnd, m10⟩
  have m110 := m19.trans m10
  refine ⟨fun hlt => ?_, fun hge2 => ?_⟩
  ·obtain ⟨q, hq⟩ : ∃ q, (needN P (pgs cs))[i]? = some q := ⟨_, List.getElem?_eq_getElem (by omega)⟩
   have hqm := List.mem_of_getElem? hq
   have hqi := (need_mem.1 hqm).1
   obtain ⟨b, o, hA, hcell⟩ := (o9.rd.ext m10).at (Iv_get (k := .i64) (Un_get hq))
   refine ⟨b, o, hA, by omega, by omega, ((q : Nat) : Int), by rw [Int.toNat_natCast, Nat.mul_one]; exact hcell, (find_ok (hn.ext m110) hl hok (by omega) _).mono ?_⟩
   rintro v w11 ⟨m11, ⟨hf, rfl⟩ | ⟨rs, A', c', hf, rfl, o11⟩⟩
   ·refine ⟨none, 0, 0, false, rfl, fun _ => ⟨m110.trans m11, _, rfl, ?_⟩, fun h => by cases h⟩
    simp only [Bool.false_eq_true, false_iff]
    intro hm
    obtain ⟨rs, h1, _⟩ := hm.nd q hqm
    rw [hf] at h1; cases h1
   ·refine ⟨A', _, c', true, rfl, (fun h => by cases h), fun _ => ?_⟩
    have m111 := m110.trans m11
    have mb : Ext w1 w11 := ((((m2.trans m7).trans m8).trans m9).trans m10).trans m11
    refine ⟨A1, n1, c1, (hB.ext mb).range_all, (kids_ok (h.ext m111) _).mono ?_⟩
    rintro v w12 ⟨A12, c12, rfl, o12, m12⟩
    rw [kidsI_len hqi] at *
    obtain ⟨hrs, _⟩ := fnd_ok hok hf
    refine ⟨A12, _, c12, rfl, fun hne => ⟨m111.trans m12, _, rfl, ?_⟩, fun heq => ?_⟩
    ·simp only [Bool.false_eq_true, false_iff]
     intro hm
     obtain ⟨rs', h1, h2, _⟩ := hm.nd q hqm
     rw [hf] at h1; cases h1
     exact hne (by rw [h2])
    ·refine (contains_ok rfl (o11.rdp.rd.ext m12) hrs (by have := kidC_le P q; omega)).mono ?_
     rintro v w13 ⟨rfl, m13⟩
     refine ⟨_, rfl, fun hb => ⟨(m111.trans m12).trans m13, _, rfl, ?_⟩, fun hb => ⟨⟨i + 1, by rw [wrap_i64 (by omega) (by omega)]; rfl, by omega, ?_, ((m10.trans m11).trans m12).trans m13⟩, by rw [wrap_i64 (by omega) (by omega)]; dsimp only; omega⟩⟩
     ·simp only [Bool.false_eq_true, false_iff]
      intro hm
      obtain ⟨rs', h1, _, h3⟩ := hm.nd q hqm
      rw [hf] at h1; cases h1
      rw [bads_iff.2 h3] at hb; cases hb
     ·intro j hj
      rw [List.take_succ, hq] at hj
      simp only [Option.toList_some, List.mem_append, List.mem_singleton] at hj
      rcases hj with hj | rfl
      ·exact hnd j hj
      ·exact ⟨rs, hf, by omega, bads_iff.1 hb⟩
  ·obtain rfl : i = (needN P (pgs cs)).length := by omega
   rw [List.take_length] at hnd
   exact ⟨m110, _, rfl, by simp only [true_iff]; exact ⟨hch, hnd⟩⟩
variable {x : Int} {A4 : Option Addr} {n4 c4 : Nat}
set_option maxHeartbeats 2000000 in
theorem refmay_ok (h : ShR w x A1 n1 A2 n2 P) (hn : PrS Rc w A3 l) (hl : l.length = n3) (hok : NdOk l) (hc : PrS By w A4 cs) (hcl : cs.length = n4) (few : n3 ≤ 10000) (few3 : n4 ≤ 10000) :
  Ret Tryz.prog 23 #[.agg ([.int .i64 x, .slice A1 n1 c1, .slice A2 n2 c2] : List Value).toArray, .slice A3 n3 c3, .slice A4 n4 c4] w fun v w' => Ext w w' ∧ ∃ q : Bool, v = .bool q ∧ (q = true ↔ MayN P l cs) := by
 subst hcl
 refine L_23 x A1 n1 c1 A2 n2 c2 A3 n3 c3 A4 cs.length c4 w _ ?_
 intro b1 w1 e1 e2
 have hB : Blk w1 b1 37 ([.int .i64 x, .slice A1 n1 c1, .slice A2 n2 c2] : List Value).toArray := Blk.new e1 e2
 have m1 : Ext w w1 := (Mod.refl _ _).alloc e2
 have hx := h.x
 refine ⟨fun y w2 => ∃ i : Nat, y = i ∧ i ≤ cs.length ∧ (∀ j, j < i → OkAt P cs j) ∧ Ext w1 w2, fun y _ => cs.length - y.toNat, ⟨0, rfl, by omega, fun j hj => absurd hj (by omega), Mod.refl _ _⟩, ?_⟩
 rintro y w2 ⟨i, rfl, hi, hall, m2⟩
 refine ⟨fun hlt => ?_, fun hge => ?_⟩
 ·intro w3 e3
  have m3 : Ext w2 w3 := (Mod.refl _ _).drew e3
  have m13 := m1.trans (m2.trans m3)
  obtain ⟨z, hz⟩ : ∃ z, cs[i]? = some z := ⟨_, List.getElem?_eq_getElem (by omega)⟩
  have hcat := (hc.ext (m1.trans m2))
  obtain ⟨b, o, A', c', hA, hr, _⟩ := hcat.at hz
  have hq := hr 0 _ rfl
  have hq1 := hr 1 _ rfl
  refine ⟨b, o, hA, by omega, by omega, z.1, hq, fun hneg => ⟨m13, _, rfl, ?_⟩, fun hnn => ⟨by omega, by omega, z.1, hq, x, by rw [(hB.ext m2).cell]; rfl, fun hge1 => ⟨m13, _, rfl, ?_⟩, fun hlt1 => ⟨fun hpos => ?_, fun hnp => ?_⟩⟩⟩
  ·simp only [Bool.false_eq_true, false_iff]
   intro hm
   obtain ⟨h0, _⟩ := hm.ch i z hz
   omega
  ·simp only [Bool.false_eq_true, false_iff]
   intro hm
   obtain ⟨_, h1, _⟩ := hm.ch i z hz
   omega
  ·have q1 : IntKind.i64.wrap ((i : Int) - 1) = ((i - 1 : Nat) : Int) := by rw [wrap_i64 (by omega) (by omega)]; omega
   rw [q1]
   obtain ⟨d, hd⟩ : ∃ d, cs[i - 1]? = some d := ⟨_, List.getElem?_eq_getElem (by omega)⟩
   obtain ⟨b', o', A'', c'', hA', hr', _⟩ := hcat.at hd
   rw [hA] at hA'; cases hA'
   refine ⟨by omega, by omega, d.1, hr' 0 _ rfl, by omega, by omega, z.1, hq, fun hge2 => ⟨m13, _, rfl, ?_⟩, fun hlt2 => ⟨by omega, by omega, A', _, c', hq1, fun hne => ⟨m13, _, rfl, ?_⟩, fun heq => ⟨⟨i + 1, by rw [wrap_i64 (by omega) (by omega)]; rfl, by omega, ?_, m2.trans m3⟩, by rw [wrap_i64 (by omega) (by omega)]; dsimp only; omega⟩⟩⟩
   ·simp only [Bool.false_eq_true, false_iff]
    intro hm
    obtain ⟨_, _, _, h4⟩ := hm.ch i z hz
    have := h4 (i - 1) d (by omega) hd
    omega
   ·simp only [Bool.false_eq_true, false_iff]
    intro hm
    obtain ⟨_, _, h2, _⟩ := hm.ch i z hz
    exact hne (by rw [h2]; rfl)
   ·intro j hj
    rcases Nat.lt_succ_iff_lt_or_eq.1 hj with hj | rfl
    ·exact hall j hj
    ·intro c hc'
     rw [hz] at hc'; cases hc'
     refine ⟨by omega, by omega, by omega, fun k e hk he => ?_⟩
     rcases Nat.lt_or_ge k (j - 1) with hk1 | hk1
     ·have := (hall (j - 1) (by omega) d hd).2.2.2 k e hk1 he
      omega
     ·obtain rfl : k = j - 1 := by omega
      rw [hd] at he; cases he
      omega
  ·obtain rfl : i = 0 := by omega
   refine ⟨by omega, by omega, A', _, c', hq1, fun hne => ⟨m13, _, rfl, ?_⟩, fun heq => ⟨⟨1, by rw [wrap_i64 (by omega) (by omega)]; rfl, by omega, ?_, m2.trans m3⟩, by rw [wrap_i64 (by omega) (by omega)]; dsimp only; omega⟩⟩
   ·simp only [Bool.false_eq_true, false_iff]
    intro hm
    obtain ⟨_, _, h2, _⟩ := hm.ch 0 z hz
    exact hne (by rw [h2]; rfl)
   ·intro j hj
    obtain rfl : j = 0 := by omega
    intro c hc'
    rw [hz] at hc'; cases hc'
    exact ⟨by omega, by omega, by omega, fun k e hk => absurd hk (by omega)⟩
 ·obtain rfl : i = cs.length := by omega
  have hch : ∀ i, OkAt P cs i := fun i => by
   rcases Nat.lt_or_ge i cs.length with h | h
   ·exact hall i h
   ·intro c hc'; rw [List.getElem?_eq_none h] at hc'; cases hc'
  intro w4 e4
  have m4 : Ext w2 w4 := (Mod.refl _ _).drew e4
  have m14 := m1.trans (m2.trans m4)
  refine ⟨x, A1, n1, c1, A2, n2, c2, (hB.ext m2).range_all, (refpages_ok (hc.ext m14) rfl (by omega)).mono ?_⟩
  rintro v w8 ⟨A8, c8, rfl, o8, m8⟩
  refine ⟨A8, _, c8, rfl, (m4.trans m8).keep, ?_⟩
  have m18 := m14.trans m8
  refine (refneed_ok (h.ext m18) o8.rd (by simp) (by omega)).mono ?_
  rintro v w9 ⟨A9, c9, rfl, o9, m9⟩
  have m19 := m18.trans m9
  have hpg : (cs.map (·.1)) = pgs cs := rfl
  rw [hpg] at o9 ⊢
  have hnl := need_len h.ok (pgs cs)
  refine ⟨A9, _, c9, rfl, fun x w10 => ∃ i : Nat, x = i ∧ i ≤ (needN P (pgs cs)).length ∧ (∀ j ∈ (needN P (pgs cs)).take i, NodeAt P l j) ∧ Ext w9 w10, fun x _ => 300 - x.toNat, ⟨0, rfl, by omega, by simp, Mod.refl _ _⟩, ?_⟩
  rintro x9 w10 ⟨i, rfl, hi2, hnd, m10⟩
  have m110 := m19.trans m10
  refine ⟨fun hlt => ?_, fun hge2 => ?_⟩
  ·obtain ⟨q, hq⟩ : ∃ q, (needN P (pgs cs))[i]? = some q := ⟨_, List.getElem?_eq_getElem (by omega)⟩
   have hqm := List.mem_of_getElem? hq
   have hqi := (need_mem.1 hqm).1
   obtain ⟨b, o, hA, hcell⟩ := (o9.rd.ext m10).at (Iv_get (k := .i64) (Un_get hq))
   refine ⟨b, o, hA, by omega, by omega, ((q : Nat) : Int), by rw [Int.toNat_natCast, Nat.mul_one]; exact hcell, (reffind_ok (hn.ext m110) hl (by omega) _).mono ?_⟩
   rintro v w11 ⟨m11, ⟨hf, rfl⟩ | ⟨rs, A', c', hf, rfl, o11⟩⟩
   ·refine ⟨none, 0, 0, false, rfl, fun w12 e12 => ⟨fun _ => ⟨m110.trans (m11.trans ((Mod.refl _ _).drew e12)), _, rfl, ?_⟩, fun h => by cases h⟩⟩
    simp only [Bool.false_eq_true, false_iff]
    intro hm
    obtain ⟨rs, h1, _⟩ := hm.nd q hqm
    rw [hf] at h1; cases h1
   ·refine ⟨A', _, c', true, rfl, fun w12 e12 => ⟨(fun h => by cases h), fun _ => ?_⟩⟩
    have m12 : Ext w11 w12 := (Mod.refl _ _).drew e12
    have m112 := (m110.trans m11).trans m12
    have mb : Ext w1 w11 := ((((m2.trans m4).trans m8).trans m9).trans m10).trans m11
    have hrow := (((o9.rd.ext m10).ext m11).at (Iv_get (k := .i64) (Un_get hq)))
    obtain ⟨b', o', hA', hcell'⟩ := hrow
    rw [hA] at hA'; cases hA'
    refine ⟨x, A1, n1, c1, A2, n2, c2, (hB.ext mb).range_all, by omega, by omega, ((q : Nat) : Int), by rw [Int.toNat_natCast, Nat.mul_one]; exact hcell', (refkids_ok (h.ext m112) _).mono ?_⟩
    rintro v w13 ⟨A12, c12, rfl, o12, m13⟩
    rw [kidsI_len hqi] at *
    obtain ⟨hrs, _⟩ := fnd_ok hok hf
    have m113 := m112.trans m13
    refine ⟨A12, _, c12, rfl, fun hne => ⟨m113, _, rfl, ?_⟩, fun heq => ?_⟩
    ·simp only [Bool.false_eq_true, false_iff]
     intro hm
     obtain ⟨rs', h1, h2, _⟩ := hm.nd q hqm
     rw [hf] at h1; cases h1
     exact hne (by rw [h2])
    ·have hk6 := kidC_le P q
     refine ⟨fun x w14 => ∃ k : Nat, x = k ∧ k ≤ rs.length ∧ (∀ r ∈ rs.take k, PlOk r) ∧ Ext w13 w14, fun x _ => 10 - x.toNat, ⟨0, rfl, by omega, by simp, Mod.refl _ _⟩, ?_⟩
     rintro x13 w14 ⟨k, rfl, hk, hpl, m14'⟩
     have m1314 := (m12.trans m13).trans m14'
     refine ⟨fun hlt3 => ?_, fun hge3 => ⟨⟨i + 1, by rw [wrap_i64 (by omega) (by omega)]; rfl, by omega, ?_, (m10.trans m11).trans m1314⟩, by rw [wrap_i64 (by omega) (by omega)]; dsimp only; omega⟩⟩
     ·obtain ⟨b4, o4, hA4, hrw⟩ := (o11.ext (m11.trans m1314)).refs hrs (by omega)
      obtain ⟨r, hri⟩ : ∃ r, rs[k]? = some r := ⟨_, List.getElem?_eq_getElem (by omega)⟩
      have hrok := hrs r (List.mem_of_getElem? hri)
      refine ⟨b4, o4, hA4, by omega, by omega, r.p, r.e, By r.d, by simp [hrok.len], hrw k r hri, (refright_ok r hrok).mono ?_⟩
      rintro v w15 ⟨rfl, m15⟩
      refine ⟨_, rfl, fun hb => ⟨(m113.trans m14').trans m15, _, rfl, ?_⟩, fun hb => ⟨⟨k + 1, by rw [wrap_i64 (by omega) (by omega)]; rfl, by omega, fun r' hr' => ?_, m14'.trans m15⟩, by rw [wrap_i64 (by omega) (by omega)]; dsimp only; omega⟩⟩
      ·simp only [Bool.false_eq_true, false_iff]
       intro hm
       obtain ⟨rs', h1, _, h3⟩ := hm.nd q hqm
       rw [hf] at h1; cases h1
       exact absurd (h3 r (List.mem_of_getElem? hri)) (of_decide_eq_false (p := r.p = 0 ∨ r.p = 1) hb)
      ·rw [List.take_succ, hri] at hr'
       simp only [Option.toList_some, List.mem_append, List.mem_singleton] at hr'
       rcases hr' with h | rfl
       ·exact hpl r' h
       ·exact of_decide_eq_true (p := r'.p = 0 ∨ r'.p = 1) hb
     ·obtain rfl : k = rs.length := by omega
      rw [List.take_length] at hpl
      intro j hj
      rw [List.take_succ, hq] at hj
      simp only [Option.toList_some, List.mem_append, List.mem_singleton] at hj
      rcases hj with hj | rfl
      ·exact hnd j hj
      ·exact ⟨rs, hf, by omega, hpl⟩
  ·obtain rfl : i = (needN P (pgs cs)).length := by omega
   rw [List.take_length] at hnd
   exact ⟨m110, _, rfl, by simp only [true_iff]; exact ⟨hch, hnd⟩⟩
end
end Go.Proofs.YtpkfdhlkknanmaaGreat
