/-
 Plans: the planner's hide.
-/
import Derived.Test.YtpkfdhlkknanmaaGreatPlan
set_option linter.all false
namespace Go.Proofs.YtpkfdhlkknanmaaGreat
open Go Go.RowKit Go.Proofs
def blkOf (i : Nat) (r0 : Rf) : Int := 2 + 2 * (i : Int) + (1 - r0.p)
def newRf (key : List Int) (e : Int) (i : Nat) (r0 : Rf) (page : List Int) : Rf := ⟨1 - r0.p, e, shaL (sealB key e (blkOf i r0) page)⟩
theorem newRf_ok {key : List Int} {e : Int} {i : Nat} {r0 : Rf} {page : List Int} (he : R32 e) (hp : PlOk r0) : (newRf key e i r0 page).Ok :=
 ⟨by simp [newRf, shaL_length], shaL_bytes _, he⟩
section
variable {K : PK} {w : World} {rows : Nat → List Rf} {root : Rf} {pts : List (Int × List Int)} {i : Nat} {A : Option Addr} {c : Nat} {page : List Int}
set_option maxHeartbeats 4000000 in
theorem phide_ok (h : HS K w rows root pts) (ok : K.Ok w) (hi : i < itm K.P) (hpar : i + 1 = itm K.P ∨ parP K.P i ∈ K.N) (hpl : PlOk (wasOf K.P rows root i)) (he : R32 K.e) (hpg : page.length = 256) (hrd : RdS w A (By page)) (few : pts.length < 1000) :
  Ret Tryz.prog 20 #[.pointer (some ⟨K.pb, 0, none⟩), .int .i64 i, .slice A 256 c] w fun v w' => v = .tuple #[] ∧
   HS K w' (rowsTo K.P rows i (newRf K.key K.e i (wasOf K.P rows root i) page)) (rootTo K.P root i (newRf K.key K.e i (wasOf K.P rows root i) page)) (pts ++ [(blkOf i (wasOf K.P rows root i), sealB K.key K.e (blkOf i (wasOf K.P rows root i)) page)]) ∧ Mod (Pmod K w) w w' := by
 have hR : (newRf K.key K.e i (wasOf K.P rows root i) page).Ok := newRf_ok he hpl
 generalize hr0 : wasOf K.P rows root i = r0 at *
 generalize hr1 : newRf K.key K.e i r0 page = r1 at *
 have hil := itm_le ok.P
 have hp01 : r0.p = 0 ∨ r0.p = 1 := hpl
 have hsub : IntKind.i64.wrap (1 - r0.p) = 1 - r0.p := wrap_i64 (by omega) (by omega)
 have hb1 := ok.b1
 have hb01 := ok.b01
 have hpb := ok.pb
 have hlo := ok.lpb
 have htg := h.target ok hi hpar hR
 refine L_20 (some ⟨K.pb, 0, none⟩) i A 256 c w _ ?_
 refine ⟨K.pb, 0, rfl, fun p3 w1 => Ext w w1 ∧ p3 = some ⟨tgB K i, tgO K i, none⟩, ?_, ?_⟩
 ·rintro p3 w1 ⟨m1, rfl⟩ w2 e2
  have m2 : Ext w1 w2 := (Mod.refl _ _).drew e2
  have m12 := m1.trans m2
  have h1 := h.ext m1
  obtain ⟨t1, _, _, _⟩ := h1.target (ok.ext m1.size) hi hpar hR
  rw [hr0] at t1
  obtain ⟨Ap, cp, hB, hpo⟩ := h1.blk
  have c34 : w1.rangeAt K.pb (0 + 34) ([.slice K.A K.n K.c] : List Value) := by
   have e : pbc K.key K.e K.A K.n K.c root K.mb Ap pts.length cp = (([.pointer none] : List Value) ++ By K.key ++ ([.int .u32 K.e] : List Value)) ++ ([.slice K.A K.n K.c] : List Value) ++ (root.cells ++ ([.map (some K.mb), .slice Ap pts.length cp] : List Value)) := by simp [pbc, Rf.cells, List.append_assoc]
   rw [e] at hB
   exact hB.mid (by simp [ok.kb.len])
  refine ⟨K.A, K.n, K.c, c34, _, _, rfl, r0.p, t1 0 _ rfl, ?_⟩
  rw [hsub]
  refine (blockno_ok ((h.shp ok).ext m12) _ _).mono ?_
  rintro v w3 ⟨rfl, m3⟩
  have hx : (if (0 ≤ (i : Int) ∧ (i : Int) < itm K.P) ∧ (1 - r0.p = 0 ∨ 1 - r0.p = 1) then 2 + 2 * (i : Int) + (1 - r0.p) else -1) = blkOf i r0 := by
   rw [if_pos ⟨⟨by omega, by omega⟩, by omega⟩]; rfl
  rw [hx]
  have hx0 : 0 ≤ blkOf i r0 := by unfold blkOf; omega
  have m13 := m12.trans m3
  refine ⟨_, rfl, fun A4 n4 c4 p5 w4 => n4 = 256 ∧ ∃ bF, p5 = some ⟨bF, 0, none⟩ ∧ w.heap.size ≤ bF ∧ Ext w w4 ∧ Blk w4 bF 46 r1.cells.toArray ∧ Own w4 w.heap.size 5 1 A4 256 c4 (By (sealB K.key K.e (blkOf i r0) page)), ?_, ?_⟩
  ·rintro A4 n4 c4 p5 w4 ⟨rfl, bF, rfl, hbF, m4, hBF, hown⟩
   have h4 := h.ext m4
   obtain ⟨Ap, cp, hB, hpo⟩ := h4.blk
   have e70 : pbc K.key K.e K.A K.n K.c root K.mb Ap pts.length cp = (([.pointer none] : List Value) ++ By K.key ++ ([.int .u32 K.e, .slice K.A K.n K.c] : List Value) ++ root.cells ++ ([.map (some K.mb)] : List Value)) ++ ([.slice Ap pts.length cp] : List Value) ++ [] := by simp [pbc, Rf.cells, List.append_assoc]
   have l70 : (([.pointer none] : List Value) ++ By K.key ++ ([.int .u32 K.e, .slice K.A K.n K.c] : List Value) ++ root.cells ++ ([.map (some K.mb)] : List Value)).length = 70 := by simp [ok.kb.len, h.rok.clen]
   have c70 : w4.cell? ⟨K.pb, 0 + 70, none⟩ = some (.slice Ap pts.length cp) := by
    rw [e70] at hB
    exact hB.mid l70 0 _ rfl
   refine ⟨Ap, _, cp, c70, fun b3 w5 e5 e6 => ?_⟩
   have hsl : (sealB K.key K.e (blkOf i r0) page).length = 256 := by rw [sealB_length, hpg]
   refine hpo.push (x := (blkOf i r0, sealB K.key K.e (blkOf i r0) page)) (by have := m4.size; omega) rfl e5 e6 hsl (Own.mono hown hb1) (by decide) rfl (by omega) (by decide) fun A6 c6 w6 hpo6 m6 => ?_
   have hB6 := hB.mod m6 fun ⟨h1, _⟩ => by omega
   rw [e70] at hB6
   refine ⟨by rw [hB6.mid l70 0 _ rfl]; rfl, hB6.frozen _, fun w7 e7 => ?_⟩
   obtain ⟨_, hset⟩ := hB6.setMid (b' := [.slice A6 (pts.length + 1) c6]) l70 rfl
   have e7' : w7 = w6.setCells K.pb 70 [.slice A6 (pts.length + 1) c6] := by rw [e7]; rfl
   obtain ⟨hB7, m7⟩ := hset w7 e7'
   have m47 : Mod (fun j => j = K.pb ∨ K.b1 ≤ j ∧ TyB w4 j 70) w4 w7 := (m6.mono fun _ _ h => .inr h).then m7 fun n _ h => .inl h
   have hmb := ok.mb
   have hpm := ok.pm
   have h7 : HS K w7 rows root (pts ++ [(blkOf i r0, sealB K.key K.e (blkOf i r0) page)]) := by
    refine ⟨⟨A6, c6, ?_, ?_⟩, ?_, fun u hu => ?_, h.len, h.rok, by simp; omega, ?_⟩
    ·have : pbc K.key K.e K.A K.n K.c root K.mb A6 (pts ++ [(blkOf i r0, sealB K.key K.e (blkOf i r0) page)]).length c6 = (([.pointer none] : List Value) ++ By K.key ++ ([.int .u32 K.e, .slice K.A K.n K.c] : List Value) ++ root.cells ++ ([.map (some K.mb)] : List Value)) ++ ([.slice A6 (pts.length + 1) c6] : List Value) ++ [] := by simp [pbc, Rf.cells, List.append_assoc]
     rw [this]; exact hB7
    ·exact hpo6.mod m7 fun j hj _ e => by omega
    ·obtain ⟨m, f, hm, hM, hf⟩ := h4.map
     exact ⟨m, f, hm, hM.mod m47 (by rintro (h | ⟨h, _⟩) <;> omega), hf⟩
    ·have hgl := ok.lt u hu
     have hgb := Own.base (h.own u hu) _ _ rfl
     exact Own.ext (h4.own u hu) m47 fun b o e => by
      cases e
      rintro (h | ⟨h, _⟩) <;> omega
    ·exact h4.sh.mod m47 fun k hk => by rintro (h | ⟨h, _⟩) <;> omega
   have hBF7 : Blk w7 bF 46 r1.cells.toArray := hBF.mod m47 (by
    rintro (h | ⟨_, h⟩)
    ·omega
    ·exact absurd (TyB.uniq h ⟨_, hBF⟩) (by decide))
   have s7 := m47.size
   have s4 := m4.size
   obtain ⟨_, _, t3, t4⟩ := h7.target (ok.ext (by omega)) hi hpar hR
   refine ⟨bF, 0, rfl, r1.p, r1.e, By r1.d, by simp [hR.len], hBF7.range_all, hR.clen, r1.one, t3, fun w8 e8 => ?_⟩
   obtain ⟨h8, m8⟩ := t4 w8 e8
   refine ⟨rfl, h8, ?_⟩
   have mall : Mod (fun j => Pmod K w j) w w8 := by
    refine ((Mod.of_ext m4).then m47 ?_).then m8 ?_
    ·rintro n hn (h | ⟨h1, cs, h2⟩)
     ·exact .inl h
     ·refine .inr (.inr ⟨h1, cs, ?_⟩)
      have := m4.block n hn id
      unfold Blk at h2 ⊢
      rw [← this]; exact h2
    ·rintro n hn rfl
     unfold tgB Pmod
     split
     ·exact .inl rfl
     ·rename_i hroot
      have hpn := hpar.resolve_left hroot
      have hgb := Own.base (h.own _ hpn) _ _ rfl
      exact .inr (.inl ⟨hgb.1, ok.lt _ hpn⟩)
   exact mall
  ·intro w9 e9
   have m9 : Ext w3 w9 := (Mod.refl _ _).drew e9
   have m19 := m13.trans m9
   have h3 := h.ext m13
   obtain ⟨t3, _, _, _⟩ := h3.target (ok.ext m13.size) hi hpar hR
   rw [hr0] at t3
   obtain ⟨Ap, cp, hB, _⟩ := h3.blk
   have c0 : w3.cell? ⟨K.pb, 0, none⟩ = some (.pointer none) := by rw [hB.cell]; rfl
   have c1 : w3.rangeAt K.pb (0 + 1) (By K.key) := by
    have e : pbc K.key K.e K.A K.n K.c root K.mb Ap pts.length cp = ([.pointer none] : List Value) ++ By K.key ++ (([.int .u32 K.e, .slice K.A K.n K.c] : List Value) ++ root.cells ++ ([.map (some K.mb), .slice Ap pts.length cp] : List Value)) := by simp [pbc, Rf.cells, List.append_assoc]
    rw [e] at hB
    exact hB.mid rfl
   have c33 : w3.cell? ⟨K.pb, 0 + 33, none⟩ = some (.int .u32 K.e) := by
    have e : pbc K.key K.e K.A K.n K.c root K.mb Ap pts.length cp = (([.pointer none] : List Value) ++ By K.key) ++ ([.int .u32 K.e] : List Value) ++ (([.slice K.A K.n K.c] : List Value) ++ root.cells ++ ([.map (some K.mb), .slice Ap pts.length cp] : List Value)) := by simp [pbc, Rf.cells, List.append_assoc]
    rw [e] at hB
    exact hB.mid (by simp [ok.kb.len]) 0 _ rfl
   refine ⟨none, c0, By K.key, by simp [ok.kb.len], c1, K.e, c33, r0.p, t3 0 _ rfl, fun wp mp _ => ?_⟩
   rw [hsub]
   have m1p := m19.trans mp
   refine (hide_ok ok.kb hpg (hrd.ext m1p)).mono ?_
   rintro v wq ⟨mq, ⟨hno, _⟩ | ⟨_, A7, c7, rfl, o7⟩⟩
   ·exact absurd ⟨⟨rfl, hx0⟩, by omega⟩ hno
   have er : (⟨1 - r0.p, K.e, shaL (sealB K.key K.e (blkOf i r0) page)⟩ : Rf) = r1 := hr1
   rw [er]
   refine ⟨A7, 256, c7, r1.p, r1.e, By r1.d, 0, rfl, by simp [hR.len], mq.keepFl (fun _ _ _ => id), fun bF wz mz hFl => ?_⟩
   have hz := hFl.2.2 _ (List.mem_singleton.2 rfl)
   have hg := hz.2.2 _ (List.mem_singleton.2 rfl)
   have hBz : Blk wz bF 46 rf0.cells.toArray := hz.1
   have o7z := o7.ext mz
   refine ⟨hR.clen, r1.one, ?_⟩
   refine lay_ok hBz hR.clen (by rfl) fun w10 h10 m10 => ?_
   have s19 := m19.size; have sp := mp.size
   have hbFw : w.heap.size ≤ bF := by have := hz.2.1; omega
   refine ⟨rfl, bF, rfl, hbFw, ?_, h10, ?_⟩
   ·exact Fro.ext ((Mod.of_ext ((m1p.trans mq).trans mz)).trans (m10.mono fun k hk e => by omega))
   ·have hsl : (sealB K.key K.e (blkOf i r0) page).length = 256 := by rw [sealB_length, hpg]
    have o : Own wz wp.heap.size 5 1 A7 256 c7 (By (sealB K.key K.e (blkOf i r0) page)) := by
     have := o7z
     unfold OX at this
     rw [hsl] at this
     exact this
    have o10 : Own w10 wp.heap.size 5 1 A7 256 c7 (By (sealB K.key K.e (blkOf i r0) page)) := Own.ext o m10 fun b o' e e' => by
     have hh := Own.typ o e
     rw [e'] at hh
     exact absurd (TyB.uniq hh ⟨_, hBz⟩) (by decide)
    exact Own.mono o10 (by omega)
 ·obtain ⟨Ap, cp, hB, hpo⟩ := h.blk
  have c34 : w.rangeAt K.pb (0 + 34) ([.slice K.A K.n K.c] : List Value) := by
   have e : pbc K.key K.e K.A K.n K.c root K.mb Ap pts.length cp = (([.pointer none] : List Value) ++ By K.key ++ ([.int .u32 K.e] : List Value)) ++ ([.slice K.A K.n K.c] : List Value) ++ (root.cells ++ ([.map (some K.mb), .slice Ap pts.length cp] : List Value)) := by simp [pbc, Rf.cells, List.append_assoc]
   rw [e] at hB
   exact hB.mid (by simp [ok.kb.len])
  refine ⟨K.A, K.n, K.c, c34, (parent_ok (h.shp ok) hi).mono ?_⟩
  rintro v w1 ⟨rfl, m1⟩
  by_cases hroot : i + 1 = itm K.P
  ·rw [if_pos hroot]
   refine ⟨0, 0, false, rfl, (fun h => by cases h), fun _ => ⟨m1, ?_⟩⟩
   simp [tgB, tgO, hroot]
  ·rw [if_neg hroot]
   have hpn := hpar.resolve_left hroot
   obtain ⟨m, f, hm, hM, hf⟩ := (h.ext m1).map
   obtain ⟨hl1, hl2⟩ := h.len _ hpn
   have hlv : lvN K.P i + 1 < nl K.P := by
    have := lv_spec ok.P hi
    have h2 := root_iff ok.P hi
    omega
   obtain ⟨hp1, _⟩ := par_kid ok.P hi hlv
   have hB1 := hB.ext m1
   have c69 : w1.cell? ⟨K.pb, 0 + 69, none⟩ = some (.map (some K.mb)) := by
    have e : pbc K.key K.e K.A K.n K.c root K.mb Ap pts.length cp = (([.pointer none] : List Value) ++ By K.key ++ ([.int .u32 K.e, .slice K.A K.n K.c] : List Value) ++ root.cells) ++ ([.map (some K.mb)] : List Value) ++ ([.slice Ap pts.length cp] : List Value) := by simp [pbc, Rf.cells, List.append_assoc]
    rw [e] at hB1
    exact hB1.mid (by simp [ok.kb.len, h.rok.clen]) 0 _ rfl
   have hpi := ok.inN _ hpn
   refine ⟨((parP K.P i : Nat) : Int), ((parA K.P i : Nat) : Int), true, rfl, fun _ => ⟨some K.mb, c69, K.mb, m, f, rfl, hM, ⟨by omega, by omega⟩, some ⟨K.g (parP K.P i), 0, none⟩, _, K.gc (parP K.P i), by rw [hf _ hpn]; rfl, _, 0, rfl, by omega, by omega, m1, ?_⟩, fun h => by cases h⟩
   simp [tgB, tgO, hroot]
end
end Go.Proofs.YtpkfdhlkknanmaaGreat
