/-
 The law's 'alive'.
-/
import Derived.Test.YtpkfdhlkknanmaaGreatCLaw2
import Derived.Test.YtpkfdhlkknanmaaGreatW6
set_option linter.all false
namespace Go.Proofs.YtpkfdhlkknanmaaGreat
open Go Go.RowKit Go.Proofs
def aRef : Rf := ⟨1, 0, zd⟩
def aL : List (Int × List Rf) := [(1, [aRef])]
def aPg : List Int := List.replicate 256 0
def aC : List (Int × List Int) := [(0, aPg)]
theorem aNeed : needN 1 (pgs aC) = [1] := by
 show needN 1 [0] = [1]
 decide
theorem aRef_ok : aRef.Ok := ⟨by decide, fun x hx => by obtain ⟨_, rfl⟩ := List.mem_replicate.1 hx; exact ⟨by decide, by decide⟩, ⟨by decide, by decide⟩⟩
theorem aOrig : orig aL 1 = [aRef] := rfl
theorem aNd : NdOk aL := fun x hx => by
 simp only [aL, List.mem_singleton] at hx
 subst hx
 refine ⟨fun r hr => ?_, by show 1 ≤ 1000; omega⟩
 have : r ∈ [aRef] := hr
 simp only [List.mem_singleton] at this
 subst this
 exact aRef_ok
theorem aMay : MayN 1 aL aC := by
 constructor
 ·intro i c hc
  match i with
  | 0 =>
   have : some ((0 : Int), aPg) = some c := hc
   cases this
   exact ⟨by decide, by decide, by unfold aPg; rw [List.length_replicate], fun j d hj => absurd hj (by omega)⟩
  | i + 1 => simp [aC] at hc
 ·intro i hi
  rw [aNeed] at hi
  simp only [List.mem_singleton] at hi
  subst hi
  refine ⟨[aRef], rfl, by decide, fun r hr => ?_⟩
  simp only [List.mem_singleton] at hr
  subst hr
  exact .inr rfl
def aS1 : PSt := stepC 1 zd 2 (plan0 aL rf0) (0, aPg)
theorem aPlan : planF 1 zd 2 aL rf0 aC = stepN 1 zd 2 aS1 1 := by
 unfold planF
 rw [aNeed]
 rfl
theorem aWas0 : wasOf 1 (plan0 aL rf0).rows (plan0 aL rf0).root 0 = aRef := by
 have h1 : ¬ (0 + 1 = itm 1) := by decide
 have h2 : parP 1 0 = 1 := by decide
 have h3 : parA 1 0 = 0 := by decide
 unfold wasOf
 rw [if_neg h1, h2, h3]
 show (orig aL 1).getD 0 rf0 = aRef
 rw [aOrig]; rfl
theorem aRoot1 : aS1.root = rf0 := by
 have h1 : ¬ (0 + 1 = itm 1) := by decide
 show rootTo 1 rf0 0 (newRf zd 2 0 (wasOf 1 (plan0 aL rf0).rows (plan0 aL rf0).root 0) aPg) = rf0
 unfold rootTo
 rw [if_neg h1]
theorem aWas1 (rows : Nat → List Rf) : wasOf 1 rows rf0 1 = rf0 := by
 have h1 : 1 + 1 = itm 1 := by decide
 unfold wasOf
 rw [if_pos h1]
theorem aFacts : ∃ x y z, (planF 1 zd 2 aL rf0 aC).pts = [(2, x), (5, y)] ∧ (planF 1 zd 2 aL rf0 aC).nds.length = 1 ∧ (planF 1 zd 2 aL rf0 aC).root = ⟨1, 2, z⟩ := by
 rw [aPlan]
 have hp1 : aS1.pts = [(2, sealB zd 2 2 aPg)] := by
  show [] ++ [(blkOf 0 (wasOf 1 (plan0 aL rf0).rows (plan0 aL rf0).root 0), sealB zd 2 (blkOf 0 (wasOf 1 (plan0 aL rf0).rows (plan0 aL rf0).root 0)) aPg)] = _
  rw [aWas0]
  have : blkOf 0 aRef = 2 := rfl
  rw [this]; rfl
 have h1 : 1 + 1 = itm 1 := by decide
 have hb : blkOf 1 rf0 = 5 := rfl
 refine ⟨sealB zd 2 2 aPg, sealB zd 2 5 (nodeL (aS1.rows 1)), shaL (sealB zd 2 5 (nodeL (aS1.rows 1))), ?_, rfl, ?_⟩
 ·show aS1.pts ++ [(blkOf 1 (wasOf 1 aS1.rows aS1.root 1), sealB zd 2 (blkOf 1 (wasOf 1 aS1.rows aS1.root 1)) (nodeL (aS1.rows 1)))] = _
  rw [aRoot1, aWas1, hp1, hb]; rfl
 ·show rootTo 1 aS1.root 1 (newRf zd 2 1 (wasOf 1 aS1.rows aS1.root 1) (nodeL (aS1.rows 1))) = _
  rw [aRoot1, aWas1]
  unfold rootTo newRf
  rw [if_pos h1, hb]; rfl
theorem zd_key : KeyOk zd := ⟨by decide, fun x hx => by obtain ⟨_, rfl⟩ := List.mem_replicate.1 hx; exact ⟨by decide, by decide⟩⟩
set_option maxHeartbeats 4000000 in
theorem calive_ok (w : World) : Ret Tryz.prog 7 #[] w fun v w' => v = .bool true ∧ Ext w w' := by
 refine L_7 w _ ?_
 refine (newshape_ok 1).mono ?_
 rintro v w1 ⟨m1, ⟨hno, _⟩ | ⟨P, hP, A1, n1, c1, rfl, hsh⟩⟩
 ·exact absurd ⟨by decide, by decide⟩ hno
 obtain rfl : P = 1 := by omega
 refine ⟨A1, n1, c1, 0, rfl, fun b1 w2 e1 e2 => ?_⟩
 have B1 : Blk w2 b1 32 ([.slice none 0 0] : List Value).toArray := Blk.new e1 e2
 have m2 : Ext w1 w2 := (Mod.refl _ _).alloc e2
 refine lay_ok B1 (by rfl) (by rfl) fun w3 h3 m3' => ?_
 have m3 : Ext w1 w3 := Fro.ext ((Mod.of_ext m2).trans (m3'.mono fun j _ e => by omega))
 obtain ⟨px, py, pz, f1, f2, f3⟩ := aFacts
 refine ⟨fun A4 n4 c4 A5 n5 c5 p2 x3 w4 => Ext w3 w4 ∧ x3 = 0 ∧ n4 = 2 ∧ n5 = 1 ∧ PrS By w4 A4 [((2 : Int), px), (5, py)] ∧ ∃ bF, p2 = some ⟨bF, 0, none⟩ ∧ Blk w4 bF 46 (Rf.cells ⟨1, 2, pz⟩).toArray, ?_, ?_⟩
 ·rintro A4 n4 c4 A5 n5 c5 p2 x3 w4 ⟨m4, rfl, rfl, rfl, hpt, bF, rfl, hB⟩
  obtain ⟨b2, o1, A', c', hA, hr, _⟩ := hpt.at (i := 0) rfl
  obtain ⟨b2', o1', A'', c'', hA', hr', _⟩ := hpt.at (i := 1) rfl
  rw [hA] at hA'; cases hA'
  refine ⟨fun _ => ⟨fun _ => ⟨b2, o1, hA, by decide, by decide, 2, hr 0 _ rfl, fun _ => ⟨by decide, by decide, 5, hr' 0 _ rfl, fun _ => ⟨bF, 0, rfl, 1, by rw [hB.cell]; rfl, fun _ => ⟨2, by rw [hB.cell]; rfl, fun _ => ⟨fun _ => ?_, fun h => absurd rfl h⟩, fun h => absurd rfl h⟩, fun h => absurd rfl h⟩, fun h => absurd rfl h⟩, fun h => absurd rfl h⟩, fun h => absurd rfl h⟩, fun h => absurd rfl h⟩
  refine ⟨A1, n1, c1, (h3.ext m4).range_all, fun b4 w5 e4 e5 => ?_⟩
  have B5 : Blk w5 b4 3 (Iv .i64 [0]).toArray := Blk.new e4 e5
  have m5 : Ext w4 w5 := (Mod.refl _ _).alloc e5
  have m15 := m3.trans (m4.trans m5)
  refine (need_ok (hsh.ext m15) (ps := [0]) (.inr ⟨b4, 0, rfl, B5.range_all⟩) rfl (by decide)).mono ?_
  rintro v w6 ⟨A7, c7, rfl, _, m6⟩
  refine ⟨A7, _, c7, rfl, ?_, m1.trans (m15.trans m6)⟩
  have : needN 1 [0] = [1] := aNeed
  rw [this]; rfl
 ·intro w7 e7
  have m7 : Ext w3 w7 := (Mod.refl _ _).drew e7
  refine ⟨A1, n1, c1, h3.range_all, fun bF4 bF6 bF7 bF9 wp mp hFl => ?_⟩
  obtain ⟨_, _, hFm⟩ := hFl
  have k4 : Blk wp bF4 46 aRef.cells.toArray := (hFm _ (List.mem_cons_self ..)).1
  have k6 : Blk wp bF6 67 ([.int .i64 1, .slice (some ⟨bF4, 0, none⟩) 1 1] : List Value).toArray := (hFm _ (List.mem_cons_of_mem _ (List.mem_cons_self ..))).1
  have k7 : Blk wp bF7 5 (By aPg).toArray := by
   have := (hFm _ (List.mem_cons_of_mem _ (List.mem_cons_of_mem _ (List.mem_cons_self ..)))).1
   rw [Nat.mul_one, madeCells_eq] at this
   unfold aPg By
   rw [List.map_replicate]
   exact this
  have k9 : Blk wp bF9 68 ([.int .i64 0, .slice (some ⟨bF7, 0, none⟩) 256 256] : List Value).toArray := (hFm _ (List.mem_cons_of_mem _ (List.mem_cons_of_mem _ (List.mem_cons_of_mem _ (List.mem_cons_self ..))))).1
  have hnp : PrS Rc wp (some ⟨bF6, 0, none⟩) aL := by
   refine ⟨[⟨1, some ⟨bF4, 0, none⟩, 1, 1⟩], rfl, .inr ⟨bF6, 0, rfl, k6.range_all⟩, fun i p x hp hx => ?_⟩
   match i with
   | 0 =>
    cases hp
    cases hx
    refine ⟨rfl, rfl, .inr ⟨bF4, 0, rfl, ?_⟩⟩
    have : Rc [aRef] = aRef.cells := List.append_nil _
    show wp.rangeAt bF4 0 (Rc [aRef])
    rw [this]; exact k4.range_all
   | i + 1 => simp at hp
  have hcp : PrS By wp (some ⟨bF9, 0, none⟩) aC := by
   refine ⟨[⟨0, some ⟨bF7, 0, none⟩, 256, 256⟩], rfl, .inr ⟨bF9, 0, rfl, k9.range_all⟩, fun i p x hp hx => ?_⟩
   match i with
   | 0 =>
    cases hp
    cases hx
    exact ⟨rfl, by unfold aPg; rw [List.length_replicate], .inr ⟨bF7, 0, rfl, k7.range_all⟩⟩
   | i + 1 => simp at hp
  have m3p := m7.trans mp
  have hz : (List.replicate 32 (.int .u8 0 : Value)) = By zd := By_zd.symm
  rw [hz]
  have hcall := plan_ok (w := wp) (P := 1) (key := zd) (e := 2) (root := rf0) (A2 := some ⟨bF6, 0, none⟩) (n2 := 1) (c2 := 1) (A3 := some ⟨bF9, 0, none⟩) (n3 := 1) (c3 := 1) zd_key ⟨by decide, by decide⟩ (c1 := c1) (hsh.ext (m3.trans m3p)) rf0_ok hnp rfl aNd hcp rfl (by decide) (by decide)
  refine hcall.mono ?_
  rintro v wq ⟨mq, ⟨hno, _⟩ | ⟨_, Ap, cp, An, cn, rfl, q1, q2, q3, _⟩⟩
  ·exact absurd ⟨aMay, .inl rfl⟩ hno
  rw [f1] at q1
  rw [f3] at q3
  rw [f1, f2, f3]
  refine ⟨Ap, 2, cp, An, 1, cn, 1, 2, By pz, 0, rfl, by have := q3.len; simpa using this, mq.keepFl (fun _ _ _ => id), fun bF wz mz hFz => ?_⟩
  obtain ⟨_, _, hzm⟩ := hFz
  have kz := hzm _ (List.mem_cons_of_mem _ (List.mem_cons_of_mem _ (List.mem_cons_of_mem _ (List.mem_cons_of_mem _ (List.mem_cons_self ..)))))
  have hBz : Blk wz bF 46 rf0.cells.toArray := by
   have := kz.1
   rw [← hz] at this
   exact this
  refine ⟨q3.clen, Rf.one ⟨1, 2, pz⟩, lay_ok hBz q3.clen (by rfl) fun w10 h10 m10 => ?_⟩
  have hg := kz.2.2 (wp.heap.size, wq.heap.size) (List.mem_cons_self ..)
  have hbig := kz.2.1
  have sp := mp.size; have sq := mq.size; have sz := mz.size; have s7 := m7.size
  refine ⟨?_, rfl, rfl, rfl, ?_, bF, rfl, h10⟩
  ·exact Fro.ext ((Mod.of_ext ((m3p.trans mq).trans mz)).trans (m10.mono fun j _ e => by omega))
  ·have : Mod (fun j => j < wp.heap.size) wq w10 := (Mod.of_ext mz).then m10 fun n hn e => by
    have h1 : bF < wp.heap.size ∨ wq.heap.size ≤ bF := hg
    omega
   exact (q1.mod this fun j hj _ h => by omega).rd
end Go.Proofs.YtpkfdhlkknanmaaGreat
