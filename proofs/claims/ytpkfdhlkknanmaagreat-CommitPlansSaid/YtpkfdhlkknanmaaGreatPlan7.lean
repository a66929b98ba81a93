/-
 Plans: the document's Plan, walked.
-/
import Derived.Test.YtpkfdhlkknanmaaGreatPlan6
set_option linter.all false
namespace Go.Proofs.YtpkfdhlkknanmaaGreat
open Go Go.RowKit Go.Proofs
def mixL {α : Type} (a b : List α) (k : Nat) : List α := a.take k ++ b.drop k
theorem mix_get {α : Type} {a b : List α} (h : a.length = b.length) {k j : Nat} (hk : k ≤ a.length) : (mixL a b k)[j]? = if j < k then a[j]? else b[j]? := by
 unfold mixL
 rw [List.getElem?_append, List.length_take, Nat.min_eq_left hk]
 split
 ·rename_i hj; rw [List.getElem?_take_of_lt hj]
 ·rename_i hj
  rw [List.getElem?_drop]
  congr 1
  omega
theorem mix_len {α : Type} {a b : List α} (h : a.length = b.length) {k : Nat} (hk : k ≤ a.length) : (mixL a b k).length = b.length := by
 unfold mixL
 rw [List.length_append, List.length_take, List.length_drop]; omega
theorem mix_set {α : Type} {a b : List α} (h : a.length = b.length) {k : Nat} {x : α} (hx : a[k]? = some x) : (mixL a b k).set k x = mixL a b (k + 1) := by
 have hk := (List.getElem?_eq_some_iff.1 hx).1
 apply List.ext_getElem?
 intro j
 have hkl : k < (mixL a b k).length := by rw [mix_len h (by omega)]; omega
 rw [List.getElem?_set, mix_get h (by omega), mix_get h (by omega)]
 by_cases h1 : k = j
 ·subst h1; rw [if_pos rfl, if_pos hkl, if_pos (by omega), hx]
 ·rw [if_neg h1]
  by_cases h2 : j < k
  ·rw [if_pos h2, if_pos (by omega)]
  ·rw [if_neg h2, if_neg (by omega)]
theorem mix_same {α : Type} {a b : List α} (h : a.length = b.length) {k : Nat} (hk : k < a.length) (hx : a[k]? = b[k]?) : mixL a b k = mixL a b (k + 1) := by
 apply List.ext_getElem?
 intro j
 rw [mix_get h (by omega), mix_get h (by omega)]
 by_cases h2 : j < k
 ·rw [if_pos h2, if_pos (by omega)]
 ·by_cases h1 : j = k
  ·subst h1; rw [if_neg h2, if_pos (by omega), hx]
  ·rw [if_neg h2, if_neg (by omega)]
theorem mix_ok {a b : List Rf} (ha : RsOk a) (hb : RsOk b) (k : Nat) : RsOk (mixL a b k) := fun r hr => by
 unfold mixL at hr
 rcases List.mem_append.1 hr with h | h
 ·exact ha r (List.mem_of_mem_take h)
 ·exact hb r (List.mem_of_mem_drop h)
theorem kidsF_len (P : Nat) (l : List (Int × List Rf)) (frl : List Rf) (tl : List Bool) (u : Nat) : (kidsF P l frl tl u).length = kidC P u := by simp [kidsF]
section
variable {w : World} {x : Int} {P : Nat} {key : List Int} {e : Int} {A1 A2 A3 A4 : Option Addr} {n1 c1 n2 c2 n3 c3 n4 c4 : Nat} {l : List (Int × List Rf)} {cs : List (Int × List Int)} {root : Rf}
def RPlanQ (P : Nat) (key : List Int) (e : Int) (l : List (Int × List Rf)) (root : Rf) (cs : List (Int × List Int)) (w' : World) (v : Value) : Prop :=
 (¬ (MayN P l cs ∧ PlOk root) ∧ v = .agg (told none 0 0 none 0 0 rf0 1).toArray) ∨
 ((MayN P l cs ∧ PlOk root) ∧ ∃ Ap cp An cn, v = .agg (told Ap (planF P key e l root cs).pts.length cp An (planF P key e l root cs).nds.length cn (planF P key e l root cs).root 0).toArray ∧
  PrS By w' Ap (planF P key e l root cs).pts ∧ PrS Rc w' An (planF P key e l root cs).nds ∧ (planF P key e l root cs).root.Ok)
set_option maxHeartbeats 16000000 in
theorem refplan_ok (hk : KeyOk key) (he : R32 e) (h : ShR w x A1 n1 A2 n2 P) (hroot : root.Ok) (hn : PrS Rc w A3 l) (hl : l.length = n3) (hok : NdOk l) (hc : PrS By w A4 cs) (hcl : cs.length = n4) (few : n3 ≤ 10000) (few3 : n4 ≤ 300) :
  Ret Tryz.prog 12 #[.agg (By key).toArray, .int .u32 e, .agg ([.int .i64 x, .slice A1 n1 c1, .slice A2 n2 c2] : List Value).toArray, .agg root.cells.toArray, .slice A3 n3 c3, .slice A4 n4 c4] w fun v w' => Ext w w' ∧ RPlanQ P key e l root cs w' v := by
 subst hcl
 have hil := itm_le h.ok
 have hn1 := h.n1
 refine L_12 (By key) e x A1 n1 c1 A2 n2 c2 root.p root.e (By root.d) A3 n3 c3 A4 cs.length c4 w _ (by simp [hk.len]) (by simp [hroot.len]) ?_
 intro b1 w1 e1 e1' b2 w2 e2 e2' b3 w3 e3 e3' b4 w4 e4 e4'
 have m1 : Ext w w1 := (Mod.refl _ _).alloc e1'
 have m2 : Ext w1 w2 := (Mod.refl _ _).alloc e2'
 have m3 : Ext w2 w3 := (Mod.refl _ _).alloc e3'
 have m4 : Ext w3 w4 := (Mod.refl _ _).alloc e4'
 have B1 : Blk w1 b1 22 (By key).toArray := Blk.new e1 e1'
 have B2 : Blk w2 b2 37 ([.int .i64 x, .slice A1 n1 c1, .slice A2 n2 c2] : List Value).toArray := Blk.new e2 e2'
 have B3 : Blk w3 b3 25 root.cells.toArray := Blk.new e3 e3'
 have B4 : Blk w4 b4 54 (told none 0 0 none 0 0 rf0 0).toArray := Blk.new e4 e4'
 have m04 := ((m1.trans m2).trans m3).trans m4
 have l4 := B4.lt
 have hb4 : w.heap.size ≤ b4 := by have := ((m1.trans m2).trans m3).size; omega
 have B14 := ((B1.ext m2).ext m3).ext m4
 have B24 := (B2.ext m3).ext m4
 have B34 := B3.ext m4
 have hfin : ∀ w5, Ext w4 w5 → ¬ (MayN P l cs ∧ PlOk root) → w5.there b4 0 37 ∧ ∀ w6, w6 = w5.setCells b4 0 (([.slice none 0 0, .slice none 0 0, .int .i64 0, .int .u32 0] : List Value) ++ (List.replicate 32 (.int .u8 0 : Value)) ++ ([.int .i64 1] : List Value)) →
   ∃ (A7 : Option Addr) (n7 : Nat) (c7 : Nat) (A8 : Option Addr) (n8 : Nat) (c8 : Nat) (x6 : Int) (x7 : Int) (d3 : List Value) (x8 : Int), d3.length = 32 ∧ w6.rangeAt b4 0 (([.slice A7 n7 c7, .slice A8 n8 c8, .int .i64 x6, .int .u32 x7] : List Value) ++ d3 ++ ([.int .i64 x8] : List Value)) ∧ (Ext w w6 ∧ RPlanQ P key e l root cs w6 (.agg (([.slice A7 n7 c7, .slice A8 n8 c8, .int .i64 x6, .int .u32 x7] : List Value) ++ d3 ++ ([.int .i64 x8] : List Value)).toArray)) := fun w5 m5 hno =>
  lay_ok (B4.ext m5) (by rfl) (by rfl) fun w6 h6 m6 => ⟨none, 0, 0, none, 0, 0, 0, 0, _, 1, by simp, h6.range_all, Fro.ext ((Mod.of_ext (m04.trans m5)).trans (m6.mono fun k hk he => by omega)), .inl ⟨hno, rfl⟩⟩
 refine ⟨x, A1, n1, c1, A2, n2, c2, B24.range_all, (refmay_ok (h.ext m04) (hn.ext m04) hl hok (hc.ext m04) rfl (by omega) (by omega)).mono ?_⟩
 rintro v w5 ⟨m5, q, rfl, hq⟩
 refine ⟨q, rfl, fun hf => hfin w5 m5 (fun ⟨hm, _⟩ => by rw [hq.2 hm] at hf; cases hf), fun ht => ?_⟩
 have hM := hq.1 ht
 refine ⟨root.p, root.e, By root.d, by simp [hroot.len], (B34.ext m5).range_all, (refright_ok root hroot).mono ?_⟩
 rintro v w7 ⟨rfl, m7⟩
 refine ⟨_, rfl, fun hf => hfin w7 (m5.trans m7) (fun ⟨_, hp⟩ => of_decide_eq_false (p := root.p = 0 ∨ root.p = 1) hf hp), fun ht2 => ?_⟩
 have hpr : PlOk root := of_decide_eq_true (p := root.p = 0 ∨ root.p = 1) ht2
 have m47 := m5.trans m7
 have m07 := m04.trans m47
 have s07 := m07.size
 have s47 := m47.size
 refine ⟨root.p, root.e, By root.d, by simp [hroot.len], (B34.ext m47).range_all, fun b5 w9 e5 e5' => ?_⟩
 have m9 : Ext w7 w9 := (Mod.refl _ _).alloc e5'
 have B5 : Blk w9 b5 54 (told none 0 0 none 0 0 rf0 0).toArray := Blk.new e5 e5'
 have l5 := B5.lt
 refine ⟨told_len hroot .., told_one none 0 0 none 0 0 root 0, ?_⟩
 refine lay_ok B5 (told_len hroot none 0 0 none 0 0 0) (by rfl) fun w10 h10 m10' => ?_
 have m10 : Ext w7 w10 := Fro.ext ((Mod.of_ext m9).trans (m10'.mono fun k _ hk => by omega))
 intro w11 e11
 have m11 : Ext w10 w11 := (Mod.refl _ _).drew e11
 have m410 := m47.trans m10
 have m011 := (m04.trans m410).trans m11
 refine ⟨x, A1, n1, c1, A2, n2, c2, (B24.ext m410).range_all, (refpages_ok (hc.ext m011) rfl (by omega)).mono ?_⟩
 rintro v w12 ⟨A13, c13, rfl, o13, m12⟩
 have m012 := m011.trans m12
 refine ⟨A13, _, c13, rfl, (m11.trans m12).keep, (refneed_ok (h.ext m012) o13.rd (by simp) (by omega)).mono ?_⟩
 rintro v w13 ⟨A14, c14, rfl, o14, m13⟩
 have hpg : (cs.map (·.1)) = pgs cs := rfl
 rw [hpg] at o14 ⊢
 have m1013 := (m11.trans m12).trans m13
 have m013 := m012.trans m13
 have m413 := m410.trans m1013
 have hnl := need_len h.ok (pgs cs)
 subst hn1
 have hnN : ((itm P : Nat) : Int).toNat = itm P := Int.toNat_natCast _
 refine ⟨A14, _, c14, rfl, A1, _, c1, by rw [(B24.ext m413).cell]; rfl, by omega, by omega, by omega, fun b6 w14 e6 e6' => ?_⟩
 have m14 : Ext w13 w14 := (Mod.refl _ _).alloc e6'
 rw [hnN] at e6'
 have e6r : w14 = w13.alloc (.cells (Rc (List.replicate (itm P) rf0)).toArray 25) := by rw [← madeRefs]; exact e6'
 have B6 : Blk w14 b6 25 (Rc (List.replicate (itm P) rf0)).toArray := Blk.new e6 e6r
 refine ⟨A1, _, c1, by rw [((B24.ext m413).ext m14).cell]; rfl, by omega, by omega, by omega, fun b7 w15 e7 e7' => ?_⟩
 have m15 : Ext w14 w15 := (Mod.refl _ _).alloc e7'
 rw [hnN, Nat.mul_one, madeCells_eq] at e7'
 have B7 : Blk w15 b7 4 ((List.replicate (itm P) false).map Value.bool).toArray := by
  rw [List.map_replicate]; exact Blk.new e7 e7'
 rw [hnN]
 have l6 := B6.lt; have l7 := B7.lt
 have s1013 := m1013.size; have s14 := m14.size; have s15 := m15.size; have s12 := (m11.trans m12).size; have s13 := m13.size
 have s910 := m10'.size
 have m015 := (m013.trans m14).trans m15
 have m415 := (m413.trans m14).trans m15
 have B215 := B24.ext m415
 have B115 := B14.ext m415
 have B315 := B34.ext m415
 have B415 := B4.ext m415
 have l2 := B24.lt; have l3 := B34.lt; have l1 := B14.lt
 have hd : b4 < b5 ∧ b5 < b6 ∧ b6 < b7 ∧ b7 < w15.heap.size := ⟨by omega, by omega, by omega, l7⟩
 have hd2 : b2 < b4 ∧ b3 < b4 ∧ b1 < b4 := by
  have q1 := B3.lt; have q2 := (B2.ext m3).lt; have q3 := ((B1.ext m2).ext m3).lt
  exact ⟨by omega, by omega, by omega⟩
 have hlow : w.heap.size ≤ b5 := by omega
 generalize hN : needN P (pgs cs) = N at *
 have hNi : ∀ u ∈ N, u < itm P := fun u hu => (need_lv h.ok (by rw [hN]; exact hu)).1
 have hRS0 : RS b5 b6 b7 w15.heap.size w15 (planI P key e cs l root 0) (List.replicate (itm P) rf0) (List.replicate (itm P) false) :=
  ⟨⟨none, 0, none, 0, ((h10.ext m1013).ext m14).ext m15, PrO.nil _ _, PrO.nil _ _⟩, B6.ext m15, B7⟩
 have hF0 : FrInv P l root N (planI P key e cs l root 0) (List.replicate (itm P) rf0) (List.replicate (itm P) false) 0 := by
  have := FrInv.start (P := P) (root := root) hM hok
  rw [hN] at this
  exact this
 have hS0 : SOk P N (planI P key e cs l root 0) := by
  have := sok0 (P := P) hM hok hroot hpr
  rw [hN] at this
  exact this
 refine ⟨fun y w16 => ∃ i : Nat, y = i ∧ i ≤ itm P ∧ ∃ frl tl, RS b5 b6 b7 w15.heap.size w16 (planI P key e cs l root i) frl tl ∧ FrInv P l root N (planI P key e cs l root i) frl tl i ∧ SOk P N (planI P key e cs l root i) ∧
   (planI P key e cs l root i).pts.length ≤ i ∧ (planI P key e cs l root i).nds.length ≤ i ∧ RMod b5 b6 b7 w15 w16, fun y _ => itm P - y.toNat, ⟨0, rfl, by omega, _, _, hRS0, hF0, hS0, Nat.le_refl _, Nat.le_refl _, Mod.refl _ _⟩, ?_⟩
 rintro y w16 ⟨i, rfl, hi, frl, tl, hR, hF, hS, hpl, hnl2, m16⟩
 have hrm : ∀ w', RMod b5 b6 b7 w15 w' → Ext w w' := fun w' hm => Fro.ext ((Mod.of_ext m015).trans (hm.mono fun j hj e => by omega))
 have s16 := m16.size
 have mw16 := hrm _ m16
 have q1 : IntKind.i64.wrap ((i : Int) + 1) = ((i + 1 : Nat) : Int) := wrap_i64 (by omega) (by omega)
 rw [q1]
 refine ⟨A1, _, c1, by rw [(B215.mod m16 (by omega)).cell]; rfl, fun hlt => ?_, fun hge => ?_⟩
 ·have hii : i < itm P := by omega
  -- the item's page is there
  refine ⟨fun A19 n19 c19 w17 => n19 = 256 ∧ ∃ page s1, planI P key e cs l root (i + 1) = hid P key e s1 i page ∧ s1.rows = (planI P key e cs l root i).rows ∧ s1.root = (planI P key e cs l root i).root ∧ s1.pts = (planI P key e cs l root i).pts ∧ s1.nds.length ≤ i + 1 ∧
   page.length = 256 ∧ RdS w17 A19 (By page) ∧ (i + 1 = itm P ∨ parP P i ∈ N) ∧ RS b5 b6 b7 w15.heap.size w17 s1 frl tl ∧ RMod b5 b6 b7 w15 w17, ?_, ?_⟩
  ·rintro A19 n19 c19 w17 ⟨rfl, page, s1, hs1, hs2, hs3, hs4, hs5, hpl2, hrd, hpar, hR17, m17⟩
   have s17 := m17.size
   have hwas : wasOf P s1.rows s1.root i = if i + 1 = itm P then root else (orig l (parP P i)).getD (parA P i) rf0 := by rw [hs2, hs3]; exact hF.was h.ok hii hpar
   have hS1 : SOk P N s1 := ⟨by rw [hs2]; exact hS.len, by rw [hs3]; exact hS.root⟩
   obtain ⟨hwp, hwo⟩ := hS1.was h.ok hii hpar
   generalize hr0 : wasOf P s1.rows s1.root i = r0 at *
   have hnr : (newRf key e i r0 page).Ok := newRf_ok he hwp
   refine ⟨root.p, root.e, By root.d, by simp [hroot.len], (B315.mod m17 (by omega)).range_all, fun b8 w18 e8 e8' => ?_⟩
   have m18 : Ext w17 w18 := (Mod.refl _ _).alloc e8'
   have B8 : Blk w18 b8 25 rf0.cells.toArray := Blk.new e8 e8'
   refine ⟨hroot.clen, root.one, lay_ok B8 hroot.clen (by rfl) fun w19 h19 m19' => ?_⟩
   have m19 : Ext w17 w19 := Fro.ext ((Mod.of_ext m18).trans (m19'.mono fun k _ hk => by omega))
   refine ⟨fun w20 => Ext w17 w20 ∧ Blk w20 b8 25 r0.cells.toArray, ?_, ?_⟩
   ·rintro w20 ⟨m20, B820⟩
    have mw17 := hrm _ m17
    have B217 := B215.mod m17 (by omega)
    have B117 := B115.mod m17 (by omega)
    have hp01 : r0.p = 0 ∨ r0.p = 1 := hwp
    have hsub : IntKind.i64.wrap (1 - r0.p) = 1 - r0.p := wrap_i64 (by omega) (by omega)
    refine ⟨x, A1, _, c1, A2, n2, c2, (B217.ext m20).range_all, r0.p, by rw [B820.cell]; rfl, ?_⟩
    rw [hsub]
    refine (refblock_ok ((h.ext mw17).ext m20) _ _).mono ?_
    rintro v w21 ⟨rfl, m21⟩
    have hx : (if (0 ≤ (i : Int) ∧ (i : Int) < itm P) ∧ (1 - r0.p = 0 ∨ 1 - r0.p = 1) then 2 + 2 * (i : Int) + (1 - r0.p) else -1) = blkOf i r0 := by
     rw [if_pos ⟨⟨by omega, by omega⟩, by omega⟩]; rfl
    rw [hx]
    have hx0 : 0 ≤ blkOf i r0 := by unfold blkOf; omega
    have m1721 := m20.trans m21
    refine ⟨_, rfl, By key, by simp [hk.len], (B117.ext m1721).range_all, r0.p, by rw [(B820.ext m21).cell]; rfl, ?_⟩
    rw [hsub]
    refine (refhide_ok hk hpl2 (hrd.ext m1721)).mono ?_
    rintro v w22 ⟨m22, ⟨hno, _⟩ | ⟨_, A22, c22, rfl, o22⟩⟩
    ·exact absurd ⟨⟨rfl, hx0⟩, by omega⟩ hno
    have hcl : (sealB key e (blkOf i r0) page).length = 256 := by rw [sealB_length, hpl2]
    have er : (⟨1 - r0.p, e, shaL (sealB key e (blkOf i r0) page)⟩ : Rf) = newRf key e i r0 page := rfl
    rw [er]
    generalize hr1 : newRf key e i r0 page = r1 at *
    refine ⟨A22, 256, c22, r1.p, r1.e, By r1.d, 0, rfl, by simp [hnr.len], fun b9 w23 e9 e9' => ?_⟩
    have m23 : Ext w22 w23 := (Mod.refl _ _).alloc e9'
    have B9 : Blk w23 b9 25 rf0.cells.toArray := Blk.new e9 e9'
    refine ⟨hnr.clen, r1.one, lay_ok B9 hnr.clen (by rfl) fun w24 h24 m24' => ?_⟩
    have m24 : Ext w22 w24 := Fro.ext ((Mod.of_ext m23).trans (m24'.mono fun k _ hk => by omega))
    have m1724 := (m1721.trans m22).trans m24
    have s1721 := m1721.size; have s1722 := (m1721.trans m22).size; have s1724 := m1724.size
    have o24 : Own w24 w15.heap.size 5 1 A22 256 c22 (By (sealB key e (blkOf i r0) page)) := by
     have := o22.ext m24
     unfold OX at this
     rw [hcl] at this
     exact Own.mono this (by omega)
    refine (hR17.ext m1724).put (by omega) (by omega) (by omega) (by omega) (by rw [hs4]; omega) hcl o24 fun w27 hR27 m27 => ?_
    have l9 := h24.lt
    have B927 : Blk w27 b9 25 r1.cells.toArray := h24.mod m27 (by
     rintro (hh | ⟨_, hh⟩)
     ·omega
     ·exact absurd (TyB.uniq hh ⟨_, h24⟩) (by decide))
    refine ⟨r1.p, r1.e, By r1.d, by simp [hnr.len], B927.range_all, by omega, by omega, hnr.clen, r1.one, ?_⟩
    obtain ⟨g1, g2⟩ := hR27.fresh (i := i) (by omega) (by rw [hF.lf]; omega) hF.ok hnr
    refine ⟨g1, fun w28 e28 => ?_⟩
    obtain ⟨hR28, m28⟩ := g2 w28 e28
    refine ⟨by omega, by omega, ?_⟩
    obtain ⟨g3, g4, g5⟩ := hR28.turned (i := i) (by omega) (by rw [hF.lt]; omega)
    refine ⟨g3, g4, fun w29 e29 => ?_⟩
    obtain ⟨hR29, m29⟩ := g5 w29 e29
    have m2729 : Mod (fun j => j = b6 ∨ j = b7) w27 w29 := (m28.mono fun _ _ h => .inl h).then m29 fun _ _ h => .inr h
    have mm : RMod b5 b6 b7 w15 w29 := by
     refine (((m17.ext m1724).then m27 ?_)).then m2729 fun n _ h => .inr h
     rintro n hn (h | ⟨h, _⟩)
     ·exact .inl h
     ·omega
    have B229 : Blk w29 b2 37 ([.int .i64 x, .slice A1 (itm P) c1, .slice A2 n2 c2] : List Value).toArray := B215.mod mm (by omega)
    have q2 : IntKind.i64.wrap (((itm P : Nat) : Int) - 1) = ((itm P - 1 : Nat) : Int) := by rw [wrap_i64 (by omega) (by omega)]; omega
    refine ⟨A1, _, c1, by rw [B229.cell]; rfl, ?_⟩
    rw [q2]
    have hstep : planI P key e cs l root (i + 1) = ⟨rowsTo P s1.rows i r1, rootTo P s1.root i r1, s1.pts ++ [(blkOf i r0, sealB key e (blkOf i r0) page)], s1.nds⟩ := by
     rw [hs1]
     unfold hid
     rw [hr0, hr1]
    have hF' : FrInv P l root N (planI P key e cs l root (i + 1)) (frl.set i r1) (tl.set i true) (i + 1) := by
     rw [hstep, hs2, hs3]
     exact hF.step h.ok hii hNi hnr _ _
    have hS' : SOk P N (planI P key e cs l root (i + 1)) := by
     rw [hs1]
     exact hS1.hid h.ok he hii hpar
    have hlp : (planI P key e cs l root (i + 1)).pts.length ≤ i + 1 := by rw [hstep]; simp only [List.length_append, List.length_cons, List.length_nil]; rw [hs4]; omega
    have hln : (planI P key e cs l root (i + 1)).nds.length ≤ i + 1 := by rw [hstep]; exact hs5
    refine ⟨fun hlast => ?_, fun hnl3 => ?_⟩
    ·have B929 := B927.mod m2729 (by omega)
     refine ⟨r1.p, r1.e, By r1.d, by simp [hnr.len], B929.range_all, hnr.clen, r1.one, ?_⟩
     obtain ⟨g6, g7⟩ := hR29.rooted (by omega) hS1.root.1 hnr
     refine ⟨g6, fun w30 e30 => ?_⟩
     obtain ⟨hR30, m30⟩ := g7 w30 e30
     refine ⟨⟨i + 1, rfl, by omega, _, _, ?_, hF', hS', hlp, hln, mm.then m30 fun n _ h => .inl h⟩, by dsimp only; omega⟩
     rw [hstep]
     have : rootTo P s1.root i r1 = r1 := by unfold rootTo; rw [if_pos (by omega)]
     rw [this]
     exact ⟨hR30.out, hR30.fr, hR30.tn⟩
    ·refine ⟨⟨i + 1, rfl, by omega, _, _, ?_, hF', hS', hlp, hln, mm⟩, by dsimp only; omega⟩
     rw [hstep]
     have : rootTo P s1.root i r1 = s1.root := by unfold rootTo; rw [if_neg (by omega)]
     rw [this]
     exact ⟨hR29.out, hR29.fr, hR29.tn⟩
   ·have mw17 := hrm _ m17
    have B217 := B215.mod m17 (by omega)
    refine ⟨x, A1, _, c1, A2, n2, c2, (B217.ext m19).range_all, (refparent_ok ((h.ext mw17).ext m19) hii).mono ?_⟩
    rintro v w31 ⟨rfl, m31⟩
    by_cases hrt : i + 1 = itm P
    ·rw [if_pos hrt]
     rw [if_pos hrt] at hwas
     refine ⟨0, 0, false, rfl, (fun h => by cases h), fun _ => ⟨m19.trans m31, ?_⟩⟩
     rw [hwas]; exact h19.ext m31
    ·rw [if_neg hrt]
     rw [if_neg hrt] at hwas
     have hpn := hpar.resolve_left hrt
     obtain ⟨ho1, ho2, ho3, ho4⟩ := orig_ok hM hok (u := parP P i) (by rw [hN]; exact hpn)
     have hlv : lvN P i + 1 < nl P := by
      have := lv_spec h.ok hii
      have h2 := root_iff h.ok hii
      omega
     obtain ⟨hp1, hp2⟩ := par_kid h.ok hii hlv
     have mw31 := (mw17.trans m19).trans m31
     refine ⟨((parP P i : Nat) : Int), ((parA P i : Nat) : Int), true, rfl, fun _ => (reffind_ok (hn.ext mw31) hl (by omega) _).mono ?_, fun h => by cases h⟩
     rintro v w32 ⟨m32, ⟨hf, _⟩ | ⟨rs, A', c', hf, rfl, o32⟩⟩
     ·rw [ho1] at hf; cases hf
     ·rw [ho1] at hf; cases hf
      obtain ⟨b11, o1, hA, hrow⟩ := (o32.ext m32).refs ho3 (by omega)
      obtain ⟨r, hri⟩ : ∃ r, (orig l (parP P i))[parA P i]? = some r := ⟨_, List.getElem?_eq_getElem (by omega)⟩
      have hrr : (orig l (parP P i)).getD (parA P i) rf0 = r := by rw [List.getD_eq_getElem?_getD, hri]; rfl
      rw [hrr] at hwas
      subst hwas
      refine ⟨A', _, c', true, rfl, b11, o1, hA, by omega, by omega, r0.p, r0.e, By r0.d, by simp [hwo.len], hrow _ _ hri, hwo.clen, r0.one, ?_⟩
      refine lay_ok ((h19.ext m31).ext m32) hwo.clen hroot.clen fun w33 h33 m33 => ⟨?_, h33⟩
      exact Fro.ext ((Mod.of_ext ((m19.trans m31).trans m32)).trans (m33.mono fun k _ hk => by omega))
  ·-- how the page is found
   refine (refpages_ok (hc.ext mw16) rfl (by omega)).mono ?_
   rintro v w34 ⟨A29, c29, rfl, o29, m34⟩
   refine ⟨A29, _, c29, rfl, (has_ok o29.rd (by simp) (by omega) _).mono ?_⟩
   rintro v w35 ⟨rfl, rfl⟩
   have hp0 : (cs.map (·.1)).contains ((i : Nat) : Int) = isPg cs i := rfl
   rw [hp0]
   have mR34 : RMod b5 b6 b7 w15 w35 := m16.ext m34
   have mw34 := hrm _ mR34
   refine ⟨_, rfl, fun hpgt => ?_, fun hpgf => ?_⟩
   ·obtain ⟨ch, hch, hchi⟩ := (isPg_iff hM).1 hpgt
    obtain ⟨k0, hk0, hk0e⟩ := List.mem_iff_getElem.1 hch
    have hk0s : cs[k0]? = some ch := by rw [List.getElem?_eq_getElem hk0, hk0e]
    obtain ⟨g1, g2, g3, g4, g5⟩ := chg_par h.ok hM hk0s
    refine ⟨fun A30 n29 c30 z w36 => ∃ j : Nat, z = j ∧ j ≤ cs.length ∧ w36 = w35 ∧ (k0 < j → n29 = 256 ∧ RdS w35 A30 (By ch.2)), fun _ _ _ z _ => cs.length - z.toNat, ⟨0, rfl, by omega, rfl, fun h => absurd h (by omega)⟩, ?_⟩
    rintro A30 n29 c30 z w36 ⟨j, rfl, hj, rfl, hfound⟩
    have q3 : IntKind.i64.wrap ((j : Int) + 1) = ((j + 1 : Nat) : Int) := wrap_i64 (by omega) (by omega)
    rw [q3]
    refine ⟨fun hlt2 => ?_, fun hge2 => ?_⟩
    ·obtain ⟨d, hd'⟩ : ∃ d, cs[j]? = some d := ⟨_, List.getElem?_eq_getElem (by omega)⟩
     obtain ⟨b12, o2, A', c', hA, hr, hrd⟩ := (hc.ext mw34).at hd'
     refine ⟨b12, o2, hA, by omega, by omega, d.1, hr 0 _ rfl, fun heq => ⟨by omega, by omega, A', _, c', hr 1 _ rfl, ⟨j + 1, rfl, by omega, rfl, fun _ => ?_⟩, by dsimp only; omega⟩, fun hne => ⟨⟨j + 1, rfl, by omega, rfl, fun hkj => ?_⟩, by dsimp only; omega⟩⟩
     ·have hjk : j = k0 := by
       rcases Nat.lt_trichotomy j k0 with hh | hh | hh
       ·have := (hM.ch k0 ch hk0s).2.2.2 j d hh hd'; omega
       ·exact hh
       ·have := (hM.ch j d hd').2.2.2 k0 ch hh hk0s; omega
      subst hjk
      rw [hk0s] at hd'; cases hd'
      exact ⟨g5, hrd⟩
     ·rcases Nat.lt_succ_iff_lt_or_eq.1 hkj with hh | hh
      ·exact hfound hh
      ·subst hh
       rw [hk0s] at hd'; cases hd'
       omega
    ·obtain ⟨f1, f2⟩ := hfound (by omega)
     refine ⟨f1, ch.2, planI P key e cs l root i, ?_, rfl, rfl, rfl, by omega, g5, f2, ?_, hR.ext m34, mR34⟩
     ·rw [planI_snoc]
      unfold stepI
      rw [if_pos hpgt, ← hchi, chg_at hM hch]
     ·rw [← hN, ← hchi]; exact g4
   ·have hpgn : ¬ isPg cs i = true := by rw [hpgf]; decide
    have o14' : RdS w35 A14 (Iv .i64 (Un N)) := (((o14.rdp.ext m14).ext m15).mod mR34 fun k hk e => by omega).rd
    refine (has_ok o14' (Un_len _) (by omega) _).mono ?_
    rintro v w37 ⟨rfl, rfl⟩
    have hcon : (Un N).contains ((i : Nat) : Int) = N.contains i := by
     rw [Bool.eq_iff_iff, List.contains_iff_mem, List.contains_iff_mem]
     simp only [Un, List.mem_map]
     exact ⟨fun ⟨a, ha, e⟩ => (show a = i by omega) ▸ ha, fun ha => ⟨i, ha, rfl⟩⟩
    rw [hcon]
    refine ⟨_, rfl, fun hnd => ?_, fun hndf => ?_⟩
    ·have hiN : i ∈ N := List.contains_iff_mem.1 hnd
     have hiN' : i ∈ needN P (pgs cs) := by rw [hN]; exact hiN
     obtain ⟨ho1, ho2, ho3, ho4⟩ := orig_ok hM hok hiN'
     obtain ⟨_, hiP, hk1, hk6⟩ := need_lv h.ok hiN'
     refine (reffind_ok (hn.ext mw34) hl (by omega) _).mono ?_
     rintro v w38 ⟨m38, ⟨hf, _⟩ | ⟨rs, A', c', hf, rfl, o38⟩⟩
     ·rw [ho1] at hf; cases hf
     ·rw [ho1] at hf; cases hf
      have mR38 : RMod b5 b6 b7 w15 w38 := mR34.ext m38
      have s38 := mR38.size
      have z0 : 0 + (orig l i).length = (orig l i).length := Nat.zero_add _
      refine ⟨A', _, c', true, rfl, [], Rc (orig l i), by omega, rfl, .inl rfl, Rc_length ho3, o38.ext m38, Rc_one _, fun hh => absurd hh (by omega), fun A33 c33 w39 ha => ?_⟩
      obtain ⟨o39, f39⟩ := Own.fro (own_nil w38 w38.heap.size 25 34) rfl (Rc_length ho3) (Nat.le_refl _) ha
      rw [z0, List.nil_append] at o39
      have m39 : Ext w38 w39 := Fro.ext f39
      have mR39 : RMod b5 b6 b7 w15 w39 := mR38.ext m39
      obtain ⟨g, rfl, hg1, hg2⟩ := Own.blk0 o39 (by rw [Rc_length ho3]; omega)
      rw [z0]
      have B239 := B215.mod mR39 (by omega)
      refine ⟨x, A1, _, c1, A2, n2, c2, B239.range_all, (refkids_ok (h.ext (hrm _ mR39)) _).mono ?_⟩
      rintro v w40 ⟨A36, c36, rfl, o36, m40⟩
      have hkl := kidsI_len hii
      have hkget : ∀ k, k < kidC P i → (kidsI P i)[k]? = some (kidF P i + k) := fun k hk => by
       unfold kidsI kidsN
       rw [if_pos (by omega), Int.toNat_natCast, List.getElem?_range' hk, Nat.one_mul]
      have mR40 : RMod b5 b6 b7 w15 w40 := mR39.ext m40
      have s40 := mR40.size
      have hm3840 : Ext w37 w40 := (m38.trans m39).trans m40
      have hR40 := ((hR.ext m34).ext hm3840)
      have hkf := kidsF_len P l frl tl i
      have hlen2 : (kidsF P l frl tl i).length = (orig l i).length := by omega
      have hrows := hF.rows i hiN
      have hkok : RsOk (kidsF P l frl tl i) := by rw [← hrows]; exact (hS.len i hiN).2.1
      have s3940 := m40.size
      refine ⟨A36, _, c36, rfl, fun z w41 => ∃ k : Nat, z = k ∧ k ≤ kidC P i ∧ OR 25 w41 w15.heap.size (some ⟨g, 0, none⟩) c33 (mixL (kidsF P l frl tl i) (orig l i) k) ∧ Mod (fun j => j = g) w40 w41, fun z _ => 10 - z.toNat,
       ⟨0, rfl, by omega, ?_, Mod.refl _ _⟩, ?_⟩
      ·have e0 : mixL (kidsF P l frl tl i) (orig l i) 0 = orig l i := by unfold mixL; simp
       rw [e0]
       exact Own.mono (Own.ext o39 m40 fun _ _ _ => id) (by omega)
      rintro z w41 ⟨k, rfl, hk', o41, m41⟩
      have q4 : IntKind.i64.wrap ((k : Int) + 1) = ((k + 1 : Nat) : Int) := wrap_i64 (by omega) (by omega)
      rw [q4]
      have s41 := m41.size
      have hgne : g ≠ b5 ∧ g ≠ b6 ∧ g ≠ b7 ∧ w15.heap.size ≤ g := ⟨by omega, by omega, by omega, by omega⟩
      refine ⟨fun hlt3 => ?_, fun hge3 => ?_⟩
      ·have hkk : k < kidC P i := by omega
       obtain ⟨a1, a2, a3, a4⟩ := kid_par h.ok hii hkk
       have o36' : RdS w41 A36 (Iv .i64 (Un (kidsI P i))) := (o36.rdp.mod m41 fun j hj e => by omega).rd
       obtain ⟨b13, o3, hA13, hcell⟩ := o36'.at (Iv_get (k := .i64) (Un_get (hkget k hkk)))
       have htl : (tl.map Value.bool)[kidF P i + k]? = some (.bool (tl.getD (kidF P i + k) false)) := by
        rw [List.getElem?_map, List.getD_eq_getElem?_getD]
        have : kidF P i + k < tl.length := by rw [hF.lt]; omega
        rw [List.getElem?_eq_getElem this]; rfl
       have htn := hR40.tn.mod m41 (by omega)
       have hfr := hR40.fr.mod m41 (by omega)
       refine ⟨b13, o3, hA13, by omega, by omega, ((kidF P i + k : Nat) : Int), by rw [Int.toNat_natCast, Nat.mul_one]; exact hcell, by omega, by omega, tl.getD (kidF P i + k) false, ?_, fun ht => ?_, fun hfl => ?_⟩
       ·rw [Int.toNat_natCast, Nat.mul_one, Nat.zero_add, htn.cell, List.getElem?_toArray]; exact htl
       ·have hflen : kidF P i + k < frl.length := by rw [hF.lf]; omega
        have hr1 : frl[kidF P i + k]? = some frl[kidF P i + k] := List.getElem?_eq_getElem hflen
        have hrok : (frl[kidF P i + k]).Ok := hF.ok _ (List.getElem_mem hflen)
        have hkfk : (kidsF P l frl tl i)[k]? = some frl[kidF P i + k] := by
         unfold kidsF
         rw [List.getElem?_map, List.getElem?_range hkk]
         simp only [Option.map_some, ht, if_true]
         rw [List.getD_eq_getElem?_getD, hr1]; rfl
        have hmi : k < (mixL (kidsF P l frl tl i) (orig l i) k).length := by rw [mix_len hlen2 (by omega)]; omega
        obtain ⟨u1, u2, u3⟩ := OR.setAt o41 (mix_ok hkok ho3 k) hmi hrok
        have hrng : w41.rangeAt b6 (0 + (((kidF P i + k : Nat) : Int)).toNat * 34) (frl[kidF P i + k]).cells := by
         rw [Nat.zero_add, Int.toNat_natCast]
         intro j v hj
         rw [hfr.cell, List.getElem?_toArray]
         exact Rc_get hF.ok hr1 j v hj
        refine ⟨by omega, by omega, ((kidF P i + k : Nat) : Int), by rw [Int.toNat_natCast, Nat.mul_one]; exact hcell, by omega, by omega, _, _, By (frl[kidF P i + k]).d, by simp [hrok.len], hrng, g, 0, rfl, by omega, by omega, hrok.clen, Rf.one _, ?_⟩
        rw [Nat.zero_add, Int.toNat_natCast]
        refine ⟨u2, fun w42 e42 => ?_⟩
        obtain ⟨u4, u5⟩ := u3 w42 e42
        rw [mix_set hlen2 hkfk] at u4
        exact ⟨⟨k + 1, rfl, by omega, u4, m41.trans u5⟩, by dsimp only; omega⟩
       ·refine ⟨⟨k + 1, rfl, by omega, ?_, m41⟩, by dsimp only; omega⟩
        rw [← mix_same hlen2 (by omega) ?_]
        ·exact o41
        ·unfold kidsF
         rw [List.getElem?_map, List.getElem?_range hkk]
         simp only [Option.map_some, hfl, Bool.false_eq_true, if_false]
         rw [List.getD_eq_getElem?_getD, List.getElem?_eq_getElem (by omega)]; rfl
      ·obtain rfl : k = kidC P i := by omega
       have emix : mixL (kidsF P l frl tl i) (orig l i) (kidC P i) = (planI P key e cs l root i).rows i := by
        rw [hrows]
        unfold mixL
        rw [List.take_of_length_le (by omega), List.drop_of_length_le (by omega), List.append_nil]
       rw [emix] at o41
       obtain ⟨hl1, hl2, hl3⟩ := hS.len i hiN
       have hR41 : RS b5 b6 b7 w15.heap.size w41 (planI P key e cs l root i) frl tl := by
        obtain ⟨⟨Ap, cp, An, cn, r1, r2, r3⟩, r4, r5⟩ := hR40
        have hgt : ¬ g < w37.heap.size := by have := (m38.size); omega
        have mm41 : Ext w37 w41 := Fro.ext ((Mod.of_ext hm3840).trans (m41.mono fun j _ e => by omega))
        exact (hR.ext m34).ext mm41
       rw [show (orig l i).length = ((planI P key e cs l root i).rows i).length by omega]
       refine hR41.node (u := i) (by omega) (by omega) (by omega) (by omega) (by omega) rfl o41 fun w45 hR45 m45 => ?_
       have hg41 := (Own.base o41 _ _ rfl).2
       have o45 : OR 25 w45 w15.heap.size (some ⟨g, 0, none⟩) c33 ((planI P key e cs l root i).rows i) := Own.ext o41 m45 fun b o e => by
        have ht := Own.typ o41 e
        cases e
        rintro (hh | ⟨_, hh⟩)
        ·omega
        ·exact absurd (TyB.uniq ht hh) (by decide)
       refine (refnodelay_ok rfl ⟨by omega, by omega⟩ (OR.rdp o45).rd hl2 hl3).mono ?_
       rintro v w46 ⟨A39, c39, rfl, o46, m46⟩
       have mR45 : RMod b5 b6 b7 w15 w45 := ((mR40.then m41 fun n hn e => by omega)).then m45 (by
        rintro n hn (hh | ⟨hh, _⟩)
        ·exact .inl hh
        ·omega)
       refine ⟨A39, 256, c39, 0, rfl, rfl, nodeL ((planI P key e cs l root i).rows i), ⟨(planI P key e cs l root i).rows, (planI P key e cs l root i).root, (planI P key e cs l root i).pts, (planI P key e cs l root i).nds ++ [(((i : Nat) : Int), (planI P key e cs l root i).rows i)]⟩, ?_, rfl, rfl, rfl, by simp only [List.length_append, List.length_cons, List.length_nil]; omega, nodeL_length hl2 (by omega), o46.rd, ?_, hR45.ext m46, mR45.ext m46⟩
       ·rw [planI_snoc]
        unfold stepI
        rw [if_neg hpgn, hN, if_pos hnd]
        rfl
       ·have := need_par h.ok hiN'
        rw [hN] at this
        exact this
    ·have hnn : ¬ N.contains i = true := by rw [hndf]; decide
     have hsame : planI P key e cs l root (i + 1) = planI P key e cs l root i := by
      rw [planI_snoc]
      unfold stepI
      rw [if_neg hpgn, hN, if_neg hnn]
     refine ⟨⟨i + 1, rfl, by omega, frl, tl, ?_, ?_, ?_, ?_, ?_, mR34⟩, by dsimp only; omega⟩
     ·rw [hsame]; exact hR.ext m34
     ·rw [hsame]; exact hF.skip
     ·rw [hsame]; exact hS
     ·rw [hsame]; omega
     ·rw [hsame]; omega
 ·obtain rfl : i = itm P := by omega
  have hall := planI_all (key := key) (e := e) (l := l) (root := root) h.ok hM
  rw [hall] at hR hS
  obtain ⟨Ap, cp, An, cn, r1, r2, r3⟩ := hR.out
  have hro := hS.root.1
  have B416 : Blk w16 b4 54 (told none 0 0 none 0 0 rf0 0).toArray := B415.mod m16 (by omega)
  refine ⟨Ap, _, cp, An, _, cn, _, _, By (planF P key e l root cs).root.d, 0, by simp [hro.len], r1.range_all, told_len hro .., told_one Ap _ cp An _ cn _ 0, ?_⟩
  refine lay_ok B416 (told_len hro Ap _ cp An _ cn 0) (by rfl) fun w47 h47 m47' => ?_
  refine ⟨Ap, _, cp, An, _, cn, _, _, By (planF P key e l root cs).root.d, 0, by simp [hro.len], h47.range_all, ?_, .inr ⟨⟨hM, hpr⟩, Ap, cp, An, cn, rfl, ?_, ?_, hro⟩⟩
  ·exact Fro.ext ((Mod.of_ext mw16).trans (m47'.mono fun j hj e => by omega))
  ·exact (r2.mod m47' fun j hj _ e => by omega).rd
  ·exact (r3.mod m47' fun j hj _ e => by omega).rd
end
end Go.Proofs.YtpkfdhlkknanmaaGreat
