/-
 The law's own functions: puts, same; two texts of bytes are one.
-/
import Derived.Test.YtpkfdhlkknanmaaGreatCLaw
set_option linter.all false
namespace Go.Proofs.YtpkfdhlkknanmaaGreat
open Go Go.RowKit Go.Proofs
theorem bsame_ok {w : World} {A B : Option Addr} {n m c d : Nat} {l k : List Int} (hl : l.length = n) (hk : k.length = m) (ha : RdS w A (By l)) (hb : RdS w B (By k)) (hn : n ≤ 1099511627776) :
  Ret Tryz.prog 34 #[.slice A n c, .slice B m d] w fun v w' => v = .bool (decide (l = k)) ∧ Ext w w' := by
 refine L_34 A n c B m d w _ ⟨fun h => ⟨?_, Mod.refl _ _⟩, fun h => ?_⟩
 ·have : l ≠ k := by rintro rfl; omega
  rw [decide_eq_false this]
 ·have hnm : n = m := by omega
  subst hnm
  refine ⟨fun x w1 => ∃ i : Nat, x = i ∧ i ≤ n ∧ l.take i = k.take i ∧ Ext w w1, fun x _ => (n - x).toNat, ⟨0, rfl, by omega, by simp, Mod.refl _ _⟩, ?_⟩
  rintro x w1 ⟨i, rfl, hi, heq, hm⟩
  refine ⟨fun hlt => ?_, fun hge => ?_⟩
  ·intro w2 e2
   have hil : i < l.length := by omega
   have hik : i < k.length := by omega
   have h1 := By_get (List.getElem?_eq_getElem hil)
   have h2 := By_get (List.getElem?_eq_getElem hik)
   rcases ha.ext hm with e | ⟨b1, o1, e1, r1⟩
   ·rw [e] at h1; cases h1
   rcases hb.ext hm with e | ⟨b2, o2, e3, r2⟩
   ·rw [e] at h2; cases h2
   have m2 := hm.drew e2
   refine ⟨b1, o1, e1, by omega, hlt, l[i], by simpa using r1 i _ h1, b2, o2, e3, by omega, by omega, k[i], by simpa using r2 i _ h2, fun hne => ⟨?_, m2⟩, fun he => ?_⟩
   ·have : l ≠ k := by rintro rfl; exact hne rfl
    rw [decide_eq_false this]
   ·have hw : IntKind.i64.wrap ((i : Int) + 1) = ((i + 1 : Nat) : Int) := by rw [wrap_i64 (by omega) (by omega)]; omega
    rw [hw]
    refine ⟨⟨i + 1, rfl, by omega, ?_, m2⟩, by simp only; omega⟩
    rw [List.take_succ_eq_append_getElem hil, List.take_succ_eq_append_getElem hik, heq, he]
  ·have : i = n := by omega
   subst this
   refine ⟨?_, hm⟩
   rw [List.take_of_length_le (by omega), List.take_of_length_le (by omega)] at heq
   rw [heq]; simp
section
variable {w : World} {A1 A2 A3 : Option Addr} {n1 c1 n2 c2 n3 c3 : Nat} {pts : List (Int × List Int)} {nds : List (Int × List Rf)} {rt : Rf} {er : Int}
set_option maxHeartbeats 1000000 in
theorem puts_ok (h1 : PrS By w A1 pts) (hl1 : pts.length = n1) (h2 : PrS By w A2 pts) (hl2 : pts.length = n2) (hr : rt.Ok) (few : ∀ x ∈ pts, x.2.length ≤ 100000) (few2 : n1 ≤ 100000) :
  Ret Tryz.prog 13 #[.slice A1 n1 c1, .agg (told A2 n2 c2 A3 n3 c3 rt er).toArray] w fun v w' => v = .bool true ∧ Ext w w' := by
 subst hl1; subst hl2
 show Ret _ _ #[.slice A1 pts.length c1, .agg (([.slice A2 pts.length c2, .slice A3 n3 c3, .int .i64 rt.p, .int .u32 rt.e] : List Value) ++ By rt.d ++ ([.int .i64 er] : List Value)).toArray] w _
 refine L_13 A1 pts.length c1 A2 pts.length c2 A3 n3 c3 rt.p rt.e (By rt.d) er w _ (by simp [hr.len]) ?_
 intro b1 w1 e1 e1'
 have B1 : Blk w1 b1 54 (told A2 pts.length c2 A3 n3 c3 rt er).toArray := Blk.new e1 e1'
 have m1 : Ext w w1 := (Mod.refl _ _).alloc e1'
 refine ⟨A2, _, c2, by rw [B1.cell]; rfl, fun h => absurd rfl h, fun _ => ?_⟩
 refine ⟨fun x w2 => ∃ i : Nat, x = i ∧ i ≤ pts.length ∧ Ext w1 w2, fun x _ => pts.length - x.toNat, ⟨0, rfl, by omega, Mod.refl _ _⟩, ?_⟩
 rintro x w2 ⟨i, rfl, hi, m2⟩
 refine ⟨fun hlt => ?_, fun hge => ⟨rfl, m1.trans m2⟩⟩
 intro w3 e3
 have m3 : Ext w2 w3 := (Mod.refl _ _).drew e3
 obtain ⟨y, hy⟩ : ∃ y, pts[i]? = some y := ⟨_, List.getElem?_eq_getElem (by omega)⟩
 have hy2 := few y (List.mem_of_getElem? hy)
 have m12 := m1.trans m2
 obtain ⟨b2, o1, A6, c6, hA1, hr1, hd1⟩ := (h1.ext m12).at hy
 obtain ⟨b3, o2, A8, c8, hA2, hr2, hd2⟩ := (h2.ext m12).at hy
 have cc : w2.cell? ⟨b1, 0, none⟩ = some (.slice A2 pts.length c2) := by rw [(B1.ext m2).cell]; rfl
 refine ⟨b2, o1, hA1, by omega, by omega, y.1, hr1 0 _ rfl, A2, _, c2, cc, b3, o2, hA2, by omega, by omega, y.1, hr2 0 _ rfl, fun h => absurd rfl h, fun _ => ⟨by omega, by omega, A6, _, c6, hr1 1 _ rfl, A2, _, c2, cc, b3, o2, hA2, by omega, by omega, A8, _, c8, hr2 1 _ rfl, (bsame_ok rfl rfl (hd1.ext m3) (hd2.ext m3) (by omega)).mono ?_⟩⟩
 rintro v w4 ⟨rfl, m4⟩
 refine ⟨_, rfl, fun h => by simp at h, fun _ => ⟨⟨i + 1, by rw [wrap_i64 (by omega) (by omega)]; rfl, by omega, m2.trans (m3.trans m4)⟩, by rw [wrap_i64 (by omega) (by omega)]; dsimp only; omega⟩⟩
set_option maxHeartbeats 2000000 in
theorem nsame_ok (h1 : PrS Rc w A1 nds) (hl1 : nds.length = n1) (h2 : PrS Rc w A2 nds) (hl2 : nds.length = n2) (few : ∀ x ∈ nds, RsOk x.2 ∧ x.2.length ≤ 6) (few2 : n1 ≤ 100000) :
  Ret Tryz.prog 14 #[.slice A1 n1 c1, .slice A2 n2 c2] w fun v w' => v = .bool true ∧ Ext w w' := by
 subst hl1; subst hl2
 refine L_14 A1 nds.length c1 A2 nds.length c2 w _ ⟨fun h => absurd rfl h, fun _ => ?_⟩
 refine ⟨fun x w2 => ∃ i : Nat, x = i ∧ i ≤ nds.length ∧ Ext w w2, fun x _ => nds.length - x.toNat, ⟨0, rfl, by omega, Mod.refl _ _⟩, ?_⟩
 rintro x w1 ⟨i, rfl, hi, m1⟩
 refine ⟨fun hlt => ?_, fun hge => ⟨rfl, m1⟩⟩
 intro w2 e2
 have m2 : Ext w1 w2 := (Mod.refl _ _).drew e2
 obtain ⟨y, hy⟩ : ∃ y, nds[i]? = some y := ⟨_, List.getElem?_eq_getElem (by omega)⟩
 obtain ⟨hyok, hy6⟩ := few y (List.mem_of_getElem? hy)
 obtain ⟨b1, o1, A3, c3, hA1, hr1, hd1⟩ := (h1.ext m1).at hy
 obtain ⟨b2, o2, A4, c4, hA2, hr2, hd2⟩ := (h2.ext m1).at hy
 have hr1' : w2.rangeAt b1 (o1 + ((i : Int)).toNat * 2) ([.int .i64 y.1, .slice A3 y.2.length c3] : List Value) := range_mod hr1 m2 id
 have hr2' : w2.rangeAt b2 (o2 + ((i : Int)).toNat * 2) ([.int .i64 y.1, .slice A4 y.2.length c4] : List Value) := range_mod hr2 m2 id
 refine ⟨b1, o1, hA1, by omega, by omega, y.1, hr1 0 _ rfl, b2, o2, hA2, by omega, by omega, y.1, hr2 0 _ rfl, fun h => absurd rfl h, fun _ => ⟨by omega, by omega, A3, _, c3, hr1 1 _ rfl, by omega, by omega, A4, _, c4, hr2 1 _ rfl, fun h => absurd rfl h, fun _ => ⟨by omega, by omega, A3, _, c3, hr1' 1 _ rfl, ?_⟩⟩⟩
 refine ⟨fun x w3 => ∃ k : Nat, x = k ∧ k ≤ y.2.length ∧ Ext w2 w3, fun x _ => y.2.length - x.toNat, ⟨0, rfl, by omega, Mod.refl _ _⟩, ?_⟩
 rintro x w3 ⟨k, rfl, hk, m3⟩
 refine ⟨fun hlt2 => ?_, fun hge2 => ⟨⟨i + 1, by rw [wrap_i64 (by omega) (by omega)]; rfl, by omega, m1.trans (m2.trans m3)⟩, by rw [wrap_i64 (by omega) (by omega)]; dsimp only; omega⟩⟩
 have m13 := m2.trans m3
 obtain ⟨b3, o3, hA3, hrow3⟩ := (hd1.ext m13).refs hyok (by omega)
 obtain ⟨r, hri⟩ : ∃ r, y.2[k]? = some r := ⟨_, List.getElem?_eq_getElem (by omega)⟩
 have hrok := hyok r (List.mem_of_getElem? hri)
 refine ⟨b3, o3, hA3, by omega, by omega, r.p, r.e, By r.d, by simp [hrok.len], hrow3 k r hri, fun b4 w4 e4 e5 => ?_⟩
 have hB4 : Blk w4 b4 46 rf0.cells.toArray := Blk.new e4 e5
 have m4 : Ext w3 w4 := (Mod.refl _ _).alloc e5
 refine ⟨hrok.clen, r.one, lay_ok hB4 hrok.clen (by rfl) fun w5 h5 m5' w6 e6 => ?_⟩
 have m5 : Ext w3 w5 := Fro.ext ((Mod.of_ext m4).trans (m5'.mono fun j _ e => by omega))
 have m6 : Ext w5 w6 := (Mod.refl _ _).drew e6
 have m15 := m13.trans m5
 obtain ⟨b5, o4, hA4, hrow4⟩ := (hd2.ext m15).refs hyok (by omega)
 have hr2'' : w5.rangeAt b2 (o2 + ((i : Int)).toNat * 2) ([.int .i64 y.1, .slice A4 y.2.length c4] : List Value) := range_mod hr2 m15 id
 refine ⟨r.p, r.e, By r.d, by simp [hrok.len], h5.range_all, by omega, by omega, A4, _, c4, hr2'' 1 _ rfl, b5, o4, hA4, by omega, by omega, r.p, r.e, By r.d, by simp [hrok.len], hrow4 k r hri, true, fun W => eq_ref hrok, (fun h => by cases h), fun _ => ⟨⟨k + 1, by rw [wrap_i64 (by omega) (by omega)]; rfl, by omega, m3.trans (m5.trans m6)⟩, by rw [wrap_i64 (by omega) (by omega)]; dsimp only; omega⟩⟩
end
end Go.Proofs.YtpkfdhlkknanmaaGreat
