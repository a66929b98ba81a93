/-
 Plans: the planner in memory; hide.
-/
import Derived.Test.YtpkfdhlkknanmaaGreatCommit4
set_option linter.all false
namespace Go.Proofs.YtpkfdhlkknanmaaGreat
open Go Go.RowKit Go.Proofs
section
variable {w w' : World} {g t n : Nat}
theorem Blk.mid {a b c : List Value} (h : Blk w g t (a ++ b ++ c).toArray) (hn : a.length = n) : w.rangeAt g n b := fun j v hj => by
 have hl := (List.getElem?_eq_some_iff.1 hj).1
 rw [h.cell, List.getElem?_toArray, List.getElem?_append_left (by rw [List.length_append]; omega), List.getElem?_append_right (by omega), show n + j - a.length = j by omega]
 exact hj
theorem Blk.setMid {a b b' c : List Value} (h : Blk w g t (a ++ b ++ c).toArray) (hn : a.length = n) (hb : b'.length = b.length) :
  w.there g n b'.length ∧ ∀ w', w' = w.setCells g n b' → Blk w' g t (a ++ b' ++ c).toArray ∧ Mod (fun j => j = g) w w' := by
 subst hn
 refine ⟨h.there (by simp; omega), fun w' e => ?_⟩
 have hs := Blk.sets (t := t) b' a.length w (a ++ b ++ c) h (by simp; omega)
 rw [← e] at hs
 refine ⟨?_, (Mod.refl _ _).sets (.inr rfl) e⟩
 have e1 : (a ++ b ++ c).take a.length = a := by rw [List.append_assoc, List.take_left]
 have e2 : (a ++ b ++ c).drop (a.length + b'.length) = c := by
  rw [hb, ← List.length_append, List.drop_left]
 rw [e1, e2] at hs
 exact hs
theorem Own.setAt {base size c o : Nat} {xs cs : List Value} (h : Own w base t size (some ⟨g, 0, none⟩) n c xs) (ho : o + cs.length ≤ n * size) :
  w.there g o cs.length ∧ ∀ w', w' = w.setCells g o cs → Own w' base t size (some ⟨g, 0, none⟩) n c (xs.take o ++ cs ++ xs.drop (o + cs.length)) ∧ Mod (fun j => j = g) w w' := by
 have hxl := h.len
 rcases h.2 with ⟨e1, _⟩ | ⟨g', cap, cur, e1, hbg, hg, hnc, hcm, hs, htake⟩
 ·injection e1 with e1; cases e1
 ·injection e1 with eA _ ec
  injection eA with eA
  injection eA with eA
  subst eA; subst ec
  have hB : Blk w g t cur.toList.toArray := hg
  have hcl : cur.toList.length = c * size := by rw [Array.length_toList, hs]
  have hle : o + cs.length ≤ cur.toList.length := by
   rw [hcl]
   exact Nat.le_trans ho (Nat.mul_le_mul_right _ hnc)
  refine ⟨hB.there (by simpa using hle), fun w' e => ?_⟩
  have hS := Blk.sets (t := t) cs o w cur.toList hB hle
  rw [← e] at hS
  refine ⟨⟨?_, .inr ⟨g, c, _, rfl, hbg, hS, hnc, hcm, ?_, ?_⟩⟩, (Mod.refl _ _).sets (.inr rfl) e⟩
  ·simp only [List.length_append, List.length_take, List.length_drop]; omega
  ·simp only [List.size_toArray, List.length_append, List.length_take, List.length_drop]; omega
  ·have hx : cur.toList.take (n * size) = xs := htake
   have hn2 : n * size ≤ cur.toList.length := by rw [hcl]; exact Nat.mul_le_mul_right _ hnc
   rw [← hx]
   apply List.ext_getElem?
   intro i
   simp only [List.getElem?_append, List.getElem?_take, List.getElem?_drop, List.length_append, List.length_take]
   have e1 : min o cur.toList.length = o := by omega
   have e2 : min (n * size) cur.toList.length = n * size := by omega
   have e3 : min o (n * size) = o := by omega
   simp only [e1, e2, e3]
   by_cases h1 : i < n * size
   ·by_cases h2 : i < o
    ·simp [h1, h2, show i < o + cs.length by omega]
    ·by_cases h3 : i < o + cs.length
     ·simp [h1, h2, h3]
     ·simp [h1, h2, h3, show o + cs.length + (i - (o + cs.length)) < n * size by omega]
   ·by_cases h3 : i < o + cs.length
    ·omega
    ·simp [h1, h3, show ¬ o + cs.length + (i - (o + cs.length)) < n * size by omega]
end
theorem Rc_set : ∀ {rs : List Rf} {i : Nat} (r : Rf), RsOk rs → i < rs.length → r.cells.length = 34 → (Rc rs).take (i * 34) ++ r.cells ++ (Rc rs).drop (i * 34 + r.cells.length) = Rc (rs.set i r)
 | [], i, r, _, h, _ => by simp at h
 | r0 :: rs, 0, r, hok, _, hr => by
  have h1 := Rf.Ok.clen (hok r0 (List.mem_cons_self ..))
  have : Rc (r0 :: rs) = r0.cells ++ Rc rs := rfl
  rw [this, Nat.zero_mul, List.take_zero, List.nil_append, Nat.zero_add, hr, ← h1, List.drop_left]
  rfl
 | r0 :: rs, i + 1, r, hok, hi, hr => by
  have h1 := Rf.Ok.clen (hok r0 (List.mem_cons_self ..))
  have e : Rc (r0 :: rs) = r0.cells ++ Rc rs := rfl
  have ih := Rc_set (i := i) r (fun r hr => hok r (List.mem_cons_of_mem _ hr)) (by simpa using hi) hr
  have e2 : Rc ((r0 :: rs).set (i + 1) r) = r0.cells ++ Rc (rs.set i r) := rfl
  rw [e, e2, ← ih, show (i + 1) * 34 = r0.cells.length + i * 34 by omega, List.take_length_add_append, Nat.add_assoc, List.drop_length_add_append]
  simp [List.append_assoc]
theorem rsok_set {rs : List Rf} {i : Nat} {r : Rf} (h : RsOk rs) (hr : r.Ok) : RsOk (rs.set i r) := fun x hx => by
 rcases List.mem_or_eq_of_mem_set hx with h1 | rfl
 ·exact h x h1
 ·exact hr
theorem OR.setAt {t : TypeId} {w : World} {base g c i : Nat} {rs : List Rf} {r : Rf} (h : OR t w base (some ⟨g, 0, none⟩) c rs) (hok : RsOk rs) (hi : i < rs.length) (hr : r.Ok) :
  w.rangeAt g (i * 34) (rs[i]).cells ∧ w.there g (i * 34) 34 ∧ ∀ w', w' = w.setCells g (i * 34) r.cells → OR t w' base (some ⟨g, 0, none⟩) c (rs.set i r) ∧ Mod (fun j => j = g) w w' := by
 have hrl := hr.clen
 obtain ⟨h1, h2⟩ := Own.setAt (o := i * 34) (cs := r.cells) h (by omega)
 obtain ⟨b, o, hA, hrow⟩ := (OR.rdp h).rd.refs hok (by omega)
 cases hA
 have hri := hrow i rs[i] (List.getElem?_eq_getElem hi)
 rw [Nat.zero_add, Int.toNat_natCast] at hri
 rw [hrl] at h1
 refine ⟨hri, h1, fun w' e => ?_⟩
 obtain ⟨h3, h4⟩ := h2 w' e
 refine ⟨?_, h4⟩
 unfold OR
 rw [← Rc_set r hok hi hrl, List.length_set]
 exact h3
def pbc (key : List Int) (e : Int) (A : Option Addr) (n c : Nat) (r : Rf) (mb : Nat) (Ap : Option Addr) (np cp : Nat) : List Value :=
 ([.pointer none] : List Value) ++ By key ++ ([.int .u32 e, .slice A n c, .int .i64 r.p, .int .u32 r.e] : List Value) ++ By r.d ++ ([.map (some mb), .slice Ap np cp] : List Value)
structure PK where
 lo : Nat
 pb : Nat
 mb : Nat
 b0 : Nat
 b1 : Nat
 key : List Int
 e : Int
 A : Option Addr
 n : Nat
 c : Nat
 P : Nat
 N : List Nat
 g : Nat → Nat
 gc : Nat → Nat
structure HS (K : PK) (w : World) (rows : Nat → List Rf) (root : Rf) (pts : List (Int × List Int)) : Prop where
 blk : ∃ Ap cp, Blk w K.pb 78 (pbc K.key K.e K.A K.n K.c root K.mb Ap pts.length cp).toArray ∧ PrO 70 5 1 By w K.b1 Ap cp pts
 map : ∃ m f, m ≤ 1000 ∧ Mi Tryz.prog 3 w K.mb m f ∧ ∀ i ∈ K.N, f ((i : Nat) : Int) = some (.slice (some ⟨K.g i, 0, none⟩) (rows i).length (K.gc i))
 own : ∀ i ∈ K.N, OR 46 w K.b0 (some ⟨K.g i, 0, none⟩) (K.gc i) (rows i)
 len : ∀ i ∈ K.N, (rows i).length = kidC K.P i ∧ RsOk (rows i)
 rok : root.Ok
 pts : pts.length ≤ 1000
 sh : RdP (fun j => j < K.lo) w K.A (Iv .i64 (Un (bgs K.P)))
structure PK.Ok (K : PK) (w : World) : Prop where
 inj : ∀ i ∈ K.N, ∀ j ∈ K.N, K.g i = K.g j → i = j
 lt : ∀ i ∈ K.N, K.g i < K.b1
 inN : ∀ i ∈ K.N, i < itm K.P
 pb : K.pb < K.b0
 mb : K.mb < K.b0
 pm : K.mb ≠ K.pb
 b01 : K.b0 ≤ K.b1
 b1 : K.b1 ≤ w.heap.size
 kb : KeyOk K.key
 lpb : K.lo ≤ K.pb
 lmb : K.lo ≤ K.mb
 n : K.n = nl K.P + 1
 P : 1 ≤ K.P ∧ K.P ≤ 216
theorem PK.Ok.ext {K : PK} {w w' : World} (h : K.Ok w) (hs : w.heap.size ≤ w'.heap.size) : K.Ok w' := ⟨h.inj, h.lt, h.inN, h.pb, h.mb, h.pm, h.b01, by have := h.b1; omega, h.kb, h.lpb, h.lmb, h.n, h.P⟩
theorem HS.ext {K : PK} {w w' : World} {rows : Nat → List Rf} {root : Rf} {pts : List (Int × List Int)} (h : HS K w rows root pts) (hm : Ext w w') : HS K w' rows root pts := by
 obtain ⟨⟨Ap, cp, h1, h2⟩, ⟨m, f, h3, h4, h5⟩, h6, h7, h8, h9, h10⟩ := h
 exact ⟨⟨Ap, cp, h1.ext hm, h2.ext hm⟩, ⟨m, f, h3, h4.ext hm, h5⟩, fun i hi => OR.ext (h6 i hi) hm, h7, h8, h9, h10.ext hm⟩
def Pmod (K : PK) (w : World) (j : Nat) : Prop := j = K.pb ∨ (K.b0 ≤ j ∧ j < K.b1) ∨ (K.b1 ≤ j ∧ TyB w j 70)
section
variable {K : PK} {w : World} {rows : Nat → List Rf} {root : Rf} {pts : List (Int × List Int)} {i : Nat}
def tgB (K : PK) (i : Nat) : Nat := if i + 1 = itm K.P then K.pb else K.g (parP K.P i)
def tgO (K : PK) (i : Nat) : Nat := if i + 1 = itm K.P then 35 else parA K.P i * 34
def wasOf (P : Nat) (rows : Nat → List Rf) (root : Rf) (i : Nat) : Rf := if i + 1 = itm P then root else (rows (parP P i)).getD (parA P i) rf0
def rowsTo (P : Nat) (rows : Nat → List Rf) (i : Nat) (r : Rf) : Nat → List Rf := fun u => if i + 1 = itm P then rows u else if u = parP P i then (rows u).set (parA P i) r else rows u
def rootTo (P : Nat) (root : Rf) (i : Nat) (r : Rf) : Rf := if i + 1 = itm P then r else root
theorem pbc_mid (key : List Int) (e : Int) (A : Option Addr) (n c : Nat) (r : Rf) (mb : Nat) (Ap : Option Addr) (np cp : Nat) :
  pbc key e A n c r mb Ap np cp = (([.pointer none] : List Value) ++ By key ++ ([.int .u32 e, .slice A n c] : List Value)) ++ r.cells ++ ([.map (some mb), .slice Ap np cp] : List Value) := by
 simp [pbc, Rf.cells, List.append_assoc]
theorem pbc_pre {key : List Int} (hk : key.length = 32) (e : Int) (A : Option Addr) (n c : Nat) : (([.pointer none] : List Value) ++ By key ++ ([.int .u32 e, .slice A n c] : List Value)).length = 35 := by simp [hk]
theorem HS.shp (h : HS K w rows root pts) (ok : K.Ok w) : ShP w K.A K.n K.P := ⟨ok.n, h.sh.rd, ok.P⟩
theorem HS.target (h : HS K w rows root pts) (ok : K.Ok w) (hi : i < itm K.P) (hpar : i + 1 = itm K.P ∨ parP K.P i ∈ K.N) {r : Rf} (hr : r.Ok) :
  w.rangeAt (tgB K i) (tgO K i) (wasOf K.P rows root i).cells ∧ (wasOf K.P rows root i).Ok ∧ w.there (tgB K i) (tgO K i) 34 ∧
   ∀ w', w' = w.setCells (tgB K i) (tgO K i) r.cells → HS K w' (rowsTo K.P rows i r) (rootTo K.P root i r) pts ∧ Mod (fun j => j = tgB K i) w w' := by
 obtain ⟨⟨Ap, cp, hB, hpo⟩, ⟨m, f, hm, hM, hf⟩, hown, hlen, hrok, hpl, hsh⟩ := h
 have hrl := hr.clen
 have hpb := ok.pb
 have hb01 := ok.b01
 have hlo := ok.lpb
 by_cases hroot : i + 1 = itm K.P
 ·simp only [tgB, tgO, wasOf, rootTo, hroot, if_true]
  rw [pbc_mid] at hB
  obtain ⟨h1, h2⟩ := hB.setMid (b' := r.cells) (pbc_pre ok.kb.len ..) (by rw [hrl, hrok.clen])
  rw [hrl] at h1
  refine ⟨hB.mid (pbc_pre ok.kb.len ..), hrok, h1, fun w' e => ?_⟩
  obtain ⟨h3, h4⟩ := h2 w' e
  refine ⟨⟨⟨Ap, cp, by rw [pbc_mid]; exact h3, hpo.mod h4 fun j hj _ e => by omega⟩, ⟨m, f, hm, hM.mod h4 ok.pm, ?_⟩, fun u hu => ?_, fun u hu => ?_, hr, hpl, hsh.mod h4 fun k hk e => by omega⟩, h4⟩
  ·intro u hu; simp only [rowsTo, hroot, if_true]; exact hf u hu
  ·simp only [rowsTo, hroot, if_true]; exact OR.mod (hown u hu) h4 fun j hj e => by omega
  ·simp only [rowsTo, hroot, if_true]; exact hlen u hu
 ·have hpn : parP K.P i ∈ K.N := hpar.resolve_left hroot
  obtain ⟨hl1, hl2⟩ := hlen _ hpn
  have hlv : lvN K.P i + 1 < nl K.P := by
   have := lv_spec ok.P hi
   have h2 := root_iff ok.P hi
   omega
  obtain ⟨hp1, _⟩ := par_kid ok.P hi hlv
  have hil : parA K.P i < (rows (parP K.P i)).length := by omega
  simp only [tgB, tgO, wasOf, rootTo, hroot, if_false]
  obtain ⟨h1, h2, h3⟩ := OR.setAt (hown _ hpn) hl2 hil hr
  have hgd : (rows (parP K.P i)).getD (parA K.P i) rf0 = (rows (parP K.P i))[parA K.P i] := by
   rw [List.getD_eq_getElem?_getD, List.getElem?_eq_getElem hil]; rfl
  rw [hgd]
  refine ⟨h1, hl2 _ (List.getElem_mem hil), h2, fun w' e => ?_⟩
  obtain ⟨h4, h5⟩ := h3 w' e
  have hgb := Own.base (hown _ hpn) _ _ rfl
  have hgl := ok.lt _ hpn
  have hmb := ok.mb
  refine ⟨⟨⟨Ap, cp, hB.mod h5 (by omega), hpo.mod h5 fun j hj _ e => by omega⟩, ⟨m, f, hm, hM.mod h5 (by omega), ?_⟩, fun u hu => ?_, fun u hu => ?_, hrok, hpl, hsh.mod h5 fun k hk e => by omega⟩, h5⟩
  ·intro u hu
   simp only [rowsTo, hroot, if_false]
   rw [hf u hu]
   split
   ·rw [List.length_set]
   ·rfl
  ·simp only [rowsTo, hroot, if_false]
   split
   ·rename_i hu'
    subst hu'
    exact h4
   ·rename_i hu'
    exact Own.ext (hown u hu) h5 fun b o e => by
     cases e
     exact fun e' => hu' (ok.inj _ hu _ hpn e')
  ·simp only [rowsTo, hroot, if_false]
   split
   ·exact ⟨by rw [List.length_set]; exact (hlen u hu).1, rsok_set (hlen u hu).2 hr⟩
   ·exact hlen u hu
end
end Go.Proofs.YtpkfdhlkknanmaaGreat
