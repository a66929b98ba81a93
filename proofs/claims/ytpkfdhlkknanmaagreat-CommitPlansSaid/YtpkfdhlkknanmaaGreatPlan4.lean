/-
 Plans: the program's Plan.
-/
import Derived.Test.YtpkfdhlkknanmaaGreatPlan3
import Derived.Test.YtpkfdhlkknanmaaGreatW5
set_option linter.all false
namespace Go.Proofs.YtpkfdhlkknanmaaGreat
open Go Go.RowKit Go.Proofs
theorem Own.blk0 {w : World} {base t size n c : Nat} {A : Option Addr} {xs : List Value} (h : Own w base t size A n c xs) (hne : 0 < xs.length) : ∃ g, A = some ⟨g, 0, none⟩ ∧ base ≤ g ∧ g < w.heap.size := by
 have hl := h.len
 rcases h.2 with ⟨_, e2⟩ | ⟨g, cap, cur, e1, hb, hg, _⟩
 ·subst e2; omega
 ·injection e1 with e1
  exact ⟨g, e1, hb, (Array.getElem?_eq_some_iff.1 hg).1⟩
theorem HS.mod {K : PK} {w w' : World} {rows : Nat → List Rf} {root : Rf} {pts : List (Int × List Int)} {ψ : Nat → Prop} (h : HS K w rows root pts) (ok : K.Ok w) (hm : Mod ψ w w') (hn : ∀ j, ψ j → K.b1 ≤ j ∧ ¬ TyB w j 70 ∧ ¬ TyB w j 5) : HS K w' rows root pts := by
 obtain ⟨⟨Ap, cp, h1, h2⟩, ⟨m, f, h3, h4, h5⟩, h6, h7, h8, h9, h10⟩ := h
 have a1 := ok.pb; have a2 := ok.mb; have a3 := ok.b01; have a4 := ok.lpb
 refine ⟨⟨Ap, cp, h1.mod hm fun h => ?_, h2.mod hm fun j hj ht h => ?_⟩, ⟨m, f, h3, h4.mod hm fun h => ?_, h5⟩, fun i hi => Own.ext (h6 i hi) hm fun b o e h => ?_, h7, h8, h9, h10.mod hm fun k hk h => ?_⟩
 ·have := (hn _ h).1; omega
 ·obtain ⟨_, g1, g2⟩ := hn _ h
  rcases ht with ht | ht
  ·exact g1 ht
  ·exact g2 ht
 ·have := (hn _ h).1; omega
 ·cases e
  have := (hn _ h).1
  have := ok.lt i hi
  omega
 ·have := (hn _ h).1; omega
section
variable {w : World} {P : Nat} {key : List Int} {e : Int} {A1 A2 A3 : Option Addr} {n1 c1 n2 c2 n3 c3 : Nat} {l : List (Int × List Rf)} {cs : List (Int × List Int)} {root : Rf}
def PlanQ (P : Nat) (key : List Int) (e : Int) (l : List (Int × List Rf)) (root : Rf) (cs : List (Int × List Int)) (B : Nat) (w' : World) (v : Value) : Prop :=
 (¬ (MayN P l cs ∧ PlOk root) ∧ v = .tuple #[.slice none 0 0, .slice none 0 0, .agg rf0.cells.toArray, .int .i64 1]) ∨
 ((MayN P l cs ∧ PlOk root) ∧ ∃ Ap cp An cn, v = .tuple #[.slice Ap (planF P key e l root cs).pts.length cp, .slice An (planF P key e l root cs).nds.length cn, .agg (planF P key e l root cs).root.cells.toArray, .int .i64 0] ∧
  PrO 70 5 1 By w' B Ap cp (planF P key e l root cs).pts ∧ PrO 67 46 34 Rc w' B An cn (planF P key e l root cs).nds ∧ (planF P key e l root cs).root.Ok ∧ ∀ x ∈ (planF P key e l root cs).nds, RsOk x.2 ∧ x.2.length ≤ 6)
set_option maxHeartbeats 8000000 in
theorem plan_ok (hk : KeyOk key) (he : R32 e) (h : ShP w A1 n1 P) (hroot : root.Ok) (hn : PrS Rc w A2 l) (hl : l.length = n2) (hok : NdOk l) (hc : PrS By w A3 cs) (hcl : cs.length = n3) (few : n2 ≤ 10000) (few3 : n3 ≤ 300) :
  Ret Tryz.prog 9 #[.pointer none, .agg (By key).toArray, .int .u32 e, .agg ([.slice A1 n1 c1] : List Value).toArray, .agg root.cells.toArray, .slice A2 n2 c2, .slice A3 n3 c3] w fun v w' => Ext w w' ∧ PlanQ P key e l root cs w.heap.size w' v := by
 subst hcl
 refine L_9 none (By key) e A1 n1 c1 root.p root.e (By root.d) A2 n2 c2 A3 cs.length c3 w _ (by simp [hk.len]) (by simp [hroot.len]) ?_
 intro b1 w1 e1 e1' b2 w2 e2 e2' b3 w3 e3 e3' b4 w4 e4 e4'
 have m1 : Ext w w1 := (Mod.refl _ _).alloc e1'
 have m2 : Ext w1 w2 := (Mod.refl _ _).alloc e2'
 have m3 : Ext w2 w3 := (Mod.refl _ _).alloc e3'
 have m4 : Ext w3 w4 := (Mod.refl _ _).alloc e4'
 have B1 : Blk w1 b1 22 (By key).toArray := Blk.new e1 e1'
 have B2 : Blk w2 b2 32 ([.slice A1 n1 c1] : List Value).toArray := Blk.new e2 e2'
 have B3 : Blk w3 b3 46 root.cells.toArray := Blk.new e3 e3'
 have B4 : Blk w4 b4 46 rf0.cells.toArray := Blk.new e4 e4'
 have m04 := ((m1.trans m2).trans m3).trans m4
 have l4 := B4.lt
 have hb4 : w.heap.size ≤ b4 := by have := ((m1.trans m2).trans m3).size; omega
 have B14 := ((B1.ext m2).ext m3).ext m4
 have B24 := (B2.ext m3).ext m4
 have B34 := B3.ext m4
 have hfin : ∀ w5, Ext w4 w5 → ¬ (MayN P l cs ∧ PlOk root) → w5.there b4 0 34 ∧ ∀ w6, w6 = w5.setCells b4 0 (([.int .i64 0, .int .u32 0] : List Value) ++ (List.replicate 32 (.int .u8 0 : Value))) →
   ∃ (x4 : Int) (x5 : Int) (d3 : List Value), d3.length = 32 ∧ w6.rangeAt b4 0 (([.int .i64 x4, .int .u32 x5] : List Value) ++ d3) ∧ (Ext w w6 ∧ PlanQ P key e l root cs w.heap.size w6 (.tuple #[.slice none 0 0, .slice none 0 0, .agg (([.int .i64 x4, .int .u32 x5] : List Value) ++ d3).toArray, .int .i64 1])) := fun w5 m5 hno =>
  lay_ok (B4.ext m5) (by rfl) (by rfl) fun w6 h6 m6 => ⟨0, 0, _, by simp, h6.range_all, Fro.ext ((Mod.of_ext (m04.trans m5)).trans (m6.mono fun k hk he => by omega)), .inl ⟨hno, rfl⟩⟩
 refine ⟨A1, n1, c1, B24.range_all, (may_ok (h.ext m04) (hn.ext m04) hl hok (hc.ext m04) rfl (by omega) (by omega)).mono ?_⟩
 rintro v w5 ⟨m5, q, rfl, hq⟩
 refine ⟨q, rfl, fun hf => hfin w5 m5 (fun ⟨hm, _⟩ => by rw [hq.2 hm] at hf; cases hf), fun ht => ?_⟩
 have hM := hq.1 ht
 refine ⟨root.p, root.e, By root.d, by simp [hroot.len], (B34.ext m5).range_all, (cplace_ok root hroot).mono ?_⟩
 rintro v w7 ⟨rfl, m7⟩
 refine ⟨_, rfl, fun hf => hfin w7 (m5.trans m7) (fun ⟨_, hp⟩ => of_decide_eq_false (p := root.p = 0 ∨ root.p = 1) hf hp), fun ht2 => ?_⟩
 have hpr : PlOk root := of_decide_eq_true (p := root.p = 0 ∨ root.p = 1) ht2
 have m47 := m5.trans m7
 have m07 := m04.trans m47
 refine ⟨By key, by simp [hk.len], (B14.ext m47).range_all, A1, n1, c1, (B24.ext m47).range_all, root.p, root.e, By root.d, by simp [hroot.len], (B34.ext m47).range_all, ?_⟩
 intro b5 w9 e5 e5' b6 w10 e6 e6' w11 e7
 have m9 : Ext w7 w9 := (Mod.refl _ _).alloc e5'
 have m10 : Ext w9 w10 := (Mod.refl _ _).alloc e6'
 have m11 : Ext w10 w11 := (Mod.refl _ _).drew e7
 have hMi := Mi.made (P := Tryz.prog) (k := 3) e5 e5'
 have B6 : Blk w10 b6 78 (pbc key e A1 n1 c1 root b5 none 0 0).toArray := by
  have := Blk.new e6 e6'
  simpa [pbc, List.append_assoc] using this
 have s07 := m07.size
 have l5 := hMi.lt
 have l6 := B6.lt
 have hb56 : b5 < b6 := by have := m9.size; omega
 have m410 : Ext w4 w10 := (m47.trans m9).trans m10
 have m011 := ((m07.trans m9).trans m10).trans m11
 have hb45 : b4 < b5 := by have := m47.size; omega
 refine ⟨A1, n1, c1, (B24.ext m410).range_all, (cpages_ok (hc.ext m011) rfl (by omega)).mono ?_⟩
 rintro v w12 ⟨A7, c7, rfl, o7, m12⟩
 have m012 := m011.trans m12
 refine ⟨A7, _, c7, rfl, (m11.trans m12).keep, (need_ok (h.ext m012) o7.rd (by simp) (by omega)).mono ?_⟩
 rintro v w13 ⟨A8, c8, rfl, o8, m13⟩
 have hpg : (cs.map (·.1)) = pgs cs := rfl
 rw [hpg] at o8 ⊢
 have hnl := need_len h.ok (pgs cs)
 have m1013 : Ext w10 w13 := (m11.trans m12).trans m13
 have m013 := m012.trans m13
 have B613 := B6.ext m1013
 have hMi13 := (hMi.ext m10).ext m1013
 have s13 := m13.size
 have s12 := (m11.trans m12).size
 generalize hN : needN P (pgs cs) = N at *
 -- the first loop: the nodes are found
 refine ⟨A8, _, c8, rfl, fun x w14 => ∃ i : Nat, x = i ∧ i ≤ N.length ∧ ∃ m f g gc, m ≤ i ∧ Mi Tryz.prog 3 w14 b5 m f ∧
   (∀ u ∈ N.take i, f ((u : Nat) : Int) = some (.slice (some ⟨g u, 0, none⟩) (orig l u).length (gc u)) ∧ OR 46 w14 w13.heap.size (some ⟨g u, 0, none⟩) (gc u) (orig l u)) ∧
   (∀ u ∈ N.take i, ∀ u' ∈ N.take i, g u = g u' → u = u') ∧ Mod (fun j => j = b5) w13 w14, fun x _ => 300 - x.toNat,
  ⟨0, rfl, by omega, 0, _, fun _ => 0, fun _ => 0, by omega, hMi13, by simp, by simp, Mod.refl _ _⟩, ?_⟩
 rintro x w14 ⟨i, rfl, hi, m, f, g, gc, hmi, hM14, hfo, hinj, m14⟩
 have s14 := m14.size
 have mw14 : Ext w w14 := Fro.ext ((Mod.of_ext m013).trans (m14.mono fun j hj e => by omega))
 refine ⟨fun hlt => ?_, fun hge => ?_⟩
 ·obtain ⟨u, hu⟩ : ∃ u, N[i]? = some u := ⟨_, List.getElem?_eq_getElem (by omega)⟩
  have hum := List.mem_of_getElem? hu
  have hum' : u ∈ needN P (pgs cs) := by rw [hN]; exact hum
  obtain ⟨hu1, hu2, hu3, hu4⟩ := need_lv h.ok hum'
  obtain ⟨ho1, ho2, ho3, ho4⟩ := orig_ok hM hok hum'
  have hil := itm_le h.ok
  have hnu : u ∉ N.take i := by
   intro hmem
   have hs := need_sorted P (pgs cs)
   rw [hN] at hs
   obtain ⟨k, hk, hku⟩ := List.mem_iff_getElem.1 hmem
   rw [List.length_take] at hk
   rw [List.getElem_take] at hku
   have := List.pairwise_iff_getElem.1 hs k i (by omega) (by omega) (by omega)
   obtain ⟨_, hui⟩ := List.getElem_of_getElem? hu
   rw [hku, hui] at this
   omega
  have hrd8 := (o8.rdp.mod m14 fun k hk e => by omega).rd
  obtain ⟨b7, o1, hA, hcell⟩ := hrd8.at (Iv_get (k := .i64) (Un_get hu))
  refine ⟨b7, o1, hA, by omega, by omega, ((u : Nat) : Int), by rw [Int.toNat_natCast, Nat.mul_one]; exact hcell, fun w15 e15 => ?_⟩
  have m15 : Ext w14 w15 := (Mod.refl _ _).drew e15
  have B614 := B613.mod m14 (by omega)
  have c69 : w14.cell? ⟨b6, 69, none⟩ = some (.map (some b5)) := by
   have e : pbc key e A1 n1 c1 root b5 none 0 0 = (([.pointer none] : List Value) ++ By key ++ ([.int .u32 e, .slice A1 n1 c1] : List Value) ++ root.cells) ++ ([.map (some b5)] : List Value) ++ ([.slice none 0 0] : List Value) := by simp [pbc, Rf.cells, List.append_assoc]
   rw [e] at B614
   exact B614.mid (by simp [hk.len, hroot.clen]) 0 _ rfl
  refine ⟨some b5, c69, (find_ok ((hn.ext mw14).ext m15) hl hok (by omega) _).mono ?_⟩
  rintro v w16 ⟨m16, ⟨hf, _⟩ | ⟨rs, A9, c9, hf, rfl, o9⟩⟩
  ·rw [ho1] at hf; cases hf
  ·rw [ho1] at hf; cases hf
   have m1416 := m15.trans m16
   have s15 := m15.size
   obtain ⟨g', rfl, hg1, hg2⟩ := Own.blk0 o9 (by rw [Rc_length ho3]; omega)
   refine ⟨_, _, c9, true, rfl, m1416.keep, b5, m, f, rfl, hM14.ext m1416, ⟨by omega, by omega⟩, Nat.lt_of_le_of_lt (show m ≤ 1000 by omega) (by decide), fun w17 hM17 m17 => ?_⟩
   have m1417 : Mod (fun j => j = b5) w14 w17 := (Mod.of_ext m1416).trans m17
   refine ⟨⟨i + 1, by rw [wrap_i64 (by omega) (by omega)]; rfl, by omega, m + 1, _, fun j => if j = u then g' else g j, fun j => if j = u then c9 else gc j, by omega, hM17, fun v hv => ?_, ?_, m14.trans m1417⟩, by rw [wrap_i64 (by omega) (by omega)]; dsimp only; omega⟩
   ·rw [List.take_succ, hu] at hv
    simp only [Option.toList_some, List.mem_append, List.mem_singleton] at hv
    by_cases hvu : v = u
    ·subst hvu
     refine ⟨by simp [fSet], ?_⟩
     simp only [if_true]
     exact (OR.mod (Own.mono o9 (by omega)) m17 fun j hj e => by omega)
    ·have hv' := hv.resolve_right hvu
     have hne : ((v : Nat) : Int) ≠ ((u : Nat) : Int) := by omega
     simp only [fSet, hvu, hne, if_false]
     obtain ⟨a, b⟩ := hfo v hv'
     exact ⟨a, OR.mod b m1417 fun j hj e => by omega⟩
   ·have hold : ∀ v ∈ N.take i, g v < w14.heap.size := fun v hv => (Own.base (hfo v hv).2 _ _ rfl).2
    intro v hv v' hv'
    rw [List.take_succ, hu] at hv hv'
    simp only [Option.toList_some, List.mem_append, List.mem_singleton] at hv hv'
    by_cases h1 : v = u
    ·by_cases h2 : v' = u
     ·intro _; rw [h1, h2]
     ·simp only [h1, h2, if_true, if_false]
      intro e
      have := hold v' (hv'.resolve_right h2)
      omega
    ·by_cases h2 : v' = u
     ·simp only [h1, h2, if_true, if_false]
      intro e
      have := hold v (hv.resolve_right h1)
      omega
     ·simp only [h1, h2, if_false]
      exact hinj v (hv.resolve_right h1) v' (hv'.resolve_right h2)
 ·obtain rfl : i = N.length := by omega
  rw [List.take_length] at hfo hinj
  -- the planner
  let K : PK := ⟨w.heap.size, b6, b5, w13.heap.size, w14.heap.size, key, e, A1, n1, c1, P, N, g, gc⟩
  have hKok : K.Ok w14 := ⟨hinj, fun u hu => (Own.base (hfo u hu).2 _ _ rfl).2, fun u hu => (need_lv h.ok (by rw [hN]; exact hu)).1, show b6 < w13.heap.size by omega, show b5 < w13.heap.size by omega, show b5 ≠ b6 by omega, s14, Nat.le_refl _, hk, show w.heap.size ≤ b6 by omega, show w.heap.size ≤ b5 by omega, h.n, h.ok⟩
  have hH0 : HS K w14 (plan0 l root).rows (plan0 l root).root (plan0 l root).pts := by
   refine ⟨⟨none, 0, B613.mod m14 (by omega), PrO.nil _ _⟩, ⟨m, f, by omega, hM14, fun u hu => (hfo u hu).1⟩, fun u hu => (hfo u hu).2, fun u hu => ?_, hroot, by show 0 ≤ 1000; omega, ?_⟩
   ·obtain ⟨_, a, b, _⟩ := orig_ok hM hok (u := u) (by rw [hN]; exact hu)
    exact ⟨a, b⟩
   ·exact (h.rd.lt.ext mw14).mono fun k hk hk2 => hk2
  have hpsi : ∀ w' j, Pmod K w' j → j < w14.heap.size → (j = b6 ∨ (w13.heap.size ≤ j ∧ j < w14.heap.size)) := by
   rintro w' j (h | h | ⟨h, _⟩) hj
   ·exact .inl h
   ·exact .inr h
   ·exact absurd h (by show ¬ w14.heap.size ≤ j; omega)
  have hlo : ∀ w', Mod (fun j => j = b6 ∨ (w13.heap.size ≤ j ∧ j < w14.heap.size)) w14 w' → Ext w w' := fun w' hm => Fro.ext ((Mod.of_ext mw14).trans (hm.mono fun j hj e => by have := m013.size; omega))
  -- the second loop: the changed pages are hidden
  refine ⟨fun x w18 => ∃ i : Nat, x = i ∧ i ≤ cs.length ∧ HS K w18 ((cs.take i).foldl (stepC P key e) (plan0 l root)).rows ((cs.take i).foldl (stepC P key e) (plan0 l root)).root ((cs.take i).foldl (stepC P key e) (plan0 l root)).pts ∧ Mod (fun j => j = b6 ∨ (w13.heap.size ≤ j ∧ j < w14.heap.size)) w14 w18, fun x _ => cs.length - x.toNat,
   ⟨0, rfl, by omega, hH0, Mod.refl _ _⟩, ?_⟩
  rintro x w18 ⟨i, rfl, hi, hH, m18⟩
  have mw18 := hlo _ m18
  have s18 := m18.size
  refine ⟨fun hlt => ?_, fun hge => ?_⟩
  ·obtain ⟨ch, hch⟩ : ∃ ch, cs[i]? = some ch := ⟨_, List.getElem?_eq_getElem (by omega)⟩
   obtain ⟨g1, g2, g3, g4, g5⟩ := chg_par h.ok hM hch
   rw [hN] at g4
   obtain ⟨b9, o2, A', c', hA, hr, hrd⟩ := (hc.ext mw18).at hch
   refine ⟨b9, o2, hA, by omega, by omega, ch.1, A', _, c', hr, fun b10 w19 e10 e10' => ?_⟩
   have hB19 : Blk w19 b10 68 ([.int .i64 0, .slice none 0 0] : List Value).toArray := Blk.new e10 e10'
   have m19 : Ext w18 w19 := (Mod.refl _ _).alloc e10'
   refine ⟨hB19.there (by simp), fun w20 e20 => ?_⟩
   have hB20 := Blk.sets _ _ w19 _ hB19 (by simp : 0 + ([.int .i64 ch.1, .slice A' ch.2.length c'] : List Value).length ≤ _)
   rw [← e20] at hB20
   have m20 : Ext w18 w20 := m19.sets (.inl (by rw [e10]; exact Nat.le_refl _)) e20
   refine ⟨ch.1, by rw [hB20.cell]; rfl, A', _, c', by rw [hB20.cell]; rfl, ?_⟩
   obtain ⟨k1, k2, k3⟩ := sokC (key := key) h.ok he hM hok hroot hpr i (by omega)
   rw [hN] at k1
   rw [g5]
   have hcall := phide_ok (K := K) (i := ch.1.toNat) (A := A') (c := c') (page := ch.2) (hH.ext m20) (hKok.ext (by have := m20.size; omega)) g3 g4 (k1.was h.ok g3 g4).1 he g5 (hrd.ext m20) (by omega)
   have hc1 : (.int .i64 ch.1 : Value) = .int .i64 ((ch.1.toNat : Nat) : Int) := by rw [← g1]
   rw [hc1]
   refine hcall.mono ?_
   rintro v w21 ⟨rfl, hH21, m21⟩
   refine ⟨rfl, ⟨i + 1, by rw [wrap_i64 (by omega) (by omega)]; rfl, by omega, ?_, ?_⟩, by rw [wrap_i64 (by omega) (by omega)]; dsimp only; omega⟩
   ·rw [planC_snoc hch]
    exact hH21
   ·exact (m18.ext m20).then m21 fun n hn hp => hpsi _ n hp hn
  ·obtain rfl : i = cs.length := by omega
   rw [planC_all] at hH
   -- the third loop: the nodes are hidden
   refine ⟨fun A12 n13 c12 x w22 => ∃ i : Nat, x = i ∧ i ≤ N.length ∧ n13 = i ∧ HS K w22 (planN P key e l root cs i).rows (planN P key e l root cs i).root (planN P key e l root cs i).pts ∧
    PrO 67 46 34 Rc w22 w14.heap.size A12 c12 (planN P key e l root cs i).nds ∧ Mod (fun j => j = b6 ∨ (w13.heap.size ≤ j ∧ j < w14.heap.size)) w14 w22, fun _ _ _ x _ => 300 - x.toNat,
    ⟨0, rfl, by omega, rfl, hH, ?_, m18⟩, ?_⟩
   ·obtain ⟨_, _, k3⟩ := sokC (key := key) h.ok he hM hok hroot hpr cs.length (Nat.le_refl _)
    rw [planC_all] at k3
    show PrO _ _ _ _ _ _ _ _ (planC P key e l root cs).nds
    rw [k3]
    exact PrO.nil _ _
   rintro A12 n13 c12 x w22 ⟨i, rfl, hi, rfl, hH22, hnd, m22⟩
   have mw22 := hlo _ m22
   have s22 := m22.size
   obtain ⟨k1, k2, k3⟩ := sokN (key := key) h.ok he hM hok hroot hpr n13 (by rw [hN]; omega)
   rw [hN] at k1
   have hKok22 : K.Ok w22 := hKok.ext s22
   have c69 : ∀ w' rows rt pts, HS K w' rows rt pts → w'.cell? ⟨b6, 69, none⟩ = some (.map (some b5)) := by
    intro w' rows rt pts hh
    obtain ⟨Ap, cp, hB, _⟩ := hh.blk
    have e : pbc K.key K.e K.A K.n K.c rt K.mb Ap pts.length cp = (([.pointer none] : List Value) ++ By key ++ ([.int .u32 e, .slice A1 n1 c1] : List Value) ++ rt.cells) ++ ([.map (some b5)] : List Value) ++ ([.slice Ap pts.length cp] : List Value) := by simp [pbc, Rf.cells, List.append_assoc, K]
    rw [e] at hB
    exact hB.mid (by simp [hk.len, hh.rok.clen]) 0 _ rfl
   refine ⟨fun hlt => ?_, fun hge => ?_⟩
   ·obtain ⟨u, hu⟩ : ∃ u, N[n13]? = some u := ⟨_, List.getElem?_eq_getElem (by omega)⟩
    have hum := List.mem_of_getElem? hu
    have hum' : u ∈ needN P (pgs cs) := by rw [hN]; exact hum
    obtain ⟨hu1, hu2, hu3, hu4⟩ := need_lv h.ok hum'
    have hil := itm_le h.ok
    obtain ⟨hr1, hr2, hr3⟩ := k1.len u hum
    have hrd8 := ((o8.rdp.mod m14 fun k hk e => by omega).mod m22 fun k hk e => by omega).rd
    obtain ⟨b11, o3, hA, hcell⟩ := hrd8.at (Iv_get (k := .i64) (Un_get hu))
    obtain ⟨m2, f2, _, hM2, hf2⟩ := hH22.map
    refine ⟨b11, o3, hA, by omega, by omega, ((u : Nat) : Int), by rw [Int.toNat_natCast, Nat.mul_one]; exact hcell, some b5, c69 _ _ _ _ hH22, b5, m2, f2, rfl, hM2, ⟨by omega, by omega⟩, some ⟨g u, 0, none⟩, _, gc u, by rw [hf2 u hum]; rfl, ?_⟩
    refine (clonerefs_ok rfl (OR.rdp (hH22.own u hum)).rd hr2 (by omega)).mono ?_
    rintro v w23 ⟨A14, c14, rfl, o14, m23⟩
    refine ⟨A14, _, c14, rfl, fun b13 w24 e13 e13' => ?_⟩
    have hnd23 := hnd.ext m23
    have s23 := m23.size
    refine hnd23.push (x := (((u : Nat) : Int), (planN P key e l root cs n13).rows u)) (by omega) k3 e13 e13' rfl (Own.mono o14 (by omega)) (by decide) rfl (by omega) (by decide) fun A15 c15 w25 hnd25 m25 => ?_
    have hH25 : HS K w25 (planN P key e l root cs n13).rows (planN P key e l root cs n13).root (planN P key e l root cs n13).pts := (hH22.ext m23).mod (hKok22.ext s23) m25 fun j ⟨h1, h2⟩ => ⟨h1, fun h3 => absurd (TyB.uniq h2 h3) (by decide), fun h3 => absurd (TyB.uniq h2 h3) (by decide)⟩
    obtain ⟨m3, f3, _, hM3, hf3⟩ := hH25.map
    have s25 := m25.size
    refine ⟨some b5, c69 _ _ _ _ hH25, b5, m3, f3, rfl, hM3, ⟨by omega, by omega⟩, some ⟨g u, 0, none⟩, _, gc u, by rw [hf3 u hum]; rfl, ?_⟩
    refine (nodelay_ok rfl ⟨by omega, by omega⟩ (OR.rdp (hH25.own u hum)).rd hr2 hr3).mono ?_
    rintro v w26 ⟨A17, c17, rfl, o17, m26⟩
    have s26 := m26.size
    refine ⟨A17, 256, c17, 0, rfl, ?_⟩
    have hcall := phide_ok (K := K) (i := u) (A := A17) (c := c17) (page := nodeL ((planN P key e l root cs n13).rows u)) (hH25.ext m26) (hKok22.ext (by omega)) hu1 (by have := need_par h.ok hum'; rw [hN] at this; exact this) (k1.was h.ok hu1 (by have := need_par h.ok hum'; rw [hN] at this; exact this)).1 he (nodeL_length hr2 (by omega)) o17.rd (by omega)
    refine hcall.mono ?_
    rintro v w27 ⟨rfl, hH27, m27⟩
    refine ⟨rfl, ⟨n13 + 1, by rw [wrap_i64 (by omega) (by omega)]; rfl, by omega, rfl, ?_, ?_, ?_⟩, by rw [wrap_i64 (by omega) (by omega)]; dsimp only; omega⟩
    ·rw [planN_snoc (by rw [hN]; exact hu)]
     exact hH27
    ·rw [planN_snoc (by rw [hN]; exact hu)]
     refine PrO.mod (hnd25.ext m26) m27 ?_
     rintro j hj ht (h1 | ⟨_, h1⟩ | ⟨_, h1⟩)
     ·have : j = b6 := h1
      omega
     ·have : j < w14.heap.size := h1
      omega
     ·rcases ht with ht | ht <;> exact absurd (TyB.uniq ht h1) (by decide)
    ·exact (((m22.ext m23).then m25 fun n hn hp => absurd hp.1 (by show ¬ w14.heap.size ≤ n; omega)).ext m26).then m27 fun n hn hp => hpsi _ n hp hn
   ·obtain rfl : n13 = N.length := by omega
    intro w28 e28
    have m28 : Ext w22 w28 := (Mod.refl _ _).drew e28
    have hall : planN P key e l root cs N.length = planF P key e l root cs := by rw [← hN]; exact planN_all
    rw [hall] at hH22 hnd k1 k2 k3
    obtain ⟨Ap, cp, hB, hpo⟩ := hH22.blk
    have c70 : w22.cell? ⟨b6, 70, none⟩ = some (.slice Ap (planF P key e l root cs).pts.length cp) := by
     have e : pbc K.key K.e K.A K.n K.c (planF P key e l root cs).root K.mb Ap (planF P key e l root cs).pts.length cp = (([.pointer none] : List Value) ++ By key ++ ([.int .u32 e, .slice A1 n1 c1] : List Value) ++ (planF P key e l root cs).root.cells ++ ([.map (some b5)] : List Value)) ++ ([.slice Ap (planF P key e l root cs).pts.length cp] : List Value) ++ [] := by simp [pbc, Rf.cells, List.append_assoc, K]
     rw [e] at hB
     exact hB.mid (by simp [hk.len, hH22.rok.clen]) 0 _ rfl
    have c35 : w22.rangeAt b6 35 (planF P key e l root cs).root.cells := by
     rw [pbc_mid] at hB
     exact hB.mid (pbc_pre hk.len ..)
    have hRk := hH22.rok
    have B422 : Blk w22 b4 46 rf0.cells.toArray := ((B4.ext (m410.trans m1013)).mod m14 (by omega)).mod m22 (by omega)
    refine ⟨Ap, _, cp, c70, _, _, By (planF P key e l root cs).root.d, by simp [hRk.len], c35, hRk.clen, Rf.one _, ?_⟩
    refine lay_ok (B422.ext m28) hRk.clen (by rfl) fun w29 h29 m29 => ?_
    refine ⟨_, _, By (planF P key e l root cs).root.d, by simp [hRk.len], h29.range_all, ?_, .inr ⟨⟨hM, hpr⟩, Ap, cp, A12, c12, by rw [k3]; rfl, ?_, ?_, hRk, ?_⟩⟩
    ·exact Fro.ext ((Mod.of_ext (mw22.trans m28)).trans (m29.mono fun j hj e => by omega))
    ·exact PrO.mono ((hpo.ext m28).mod m29 fun j hj _ e => by have : w14.heap.size ≤ j := hj; omega) (by have := mw14.size; exact this)
    ·exact PrO.mono ((hnd.ext m28).mod m29 fun j hj _ e => by omega) (by have := mw14.size; omega)
    ·exact nds_ok h.ok he hM hok hroot hpr
end
end Go.Proofs.YtpkfdhlkknanmaaGreat
