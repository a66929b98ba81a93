/-
 Plans: the law, item by item, as the document goes.
-/
import Derived.Test.YtpkfdhlkknanmaaGreatPlan4
set_option linter.all false
namespace Go.Proofs.YtpkfdhlkknanmaaGreat
open Go Go.RowKit Go.Proofs
theorem madeRefs (n : Nat) : madeCells rf0.cells.toArray (n * 34) = (Rc (List.replicate n rf0)).toArray := by
 have ok : RsOk (List.replicate n rf0) := fun r hr => by
  obtain ⟨_, rfl⟩ := List.mem_replicate.1 hr
  exact ⟨by decide, fun x hx => by obtain ⟨_, rfl⟩ := List.mem_replicate.1 hx; exact ⟨by decide, by decide⟩, ⟨by decide, by decide⟩⟩
 have hl : (Rc (List.replicate n rf0)).length = n * 34 := by rw [Rc_length ok, List.length_replicate]
 have h34 : rf0.cells.toArray.size = 34 := by decide
 apply Array.ext'
 apply List.ext_getElem?
 intro i
 unfold madeCells
 rw [h34]
 simp only [Array.toList_map, Array.toList_range]
 rw [List.getElem?_map]
 by_cases hi : i < n * 34
 ·rw [List.getElem?_range hi]
  have hm : i % 34 < rf0.cells.length := by rw [show rf0.cells.length = 34 by decide]; omega
  have hd : i / 34 < n := by omega
  have h2 := Rc_get ok (i := i / 34) (r := rf0) (by rw [List.getElem?_replicate, if_pos hd]) (i % 34) (rf0.cells[i % 34]) (List.getElem?_eq_getElem hm)
  rw [show i / 34 * 34 + i % 34 = i by omega] at h2
  show _ = (Rc (List.replicate n rf0))[i]?
  rw [h2]
  simp only [Option.map_some]
  congr 1
  have : i % 34 < rf0.cells.toArray.size := by simpa using hm
  rw [getElem!_pos rf0.cells.toArray (i % 34) this]
  simp
 ·have e1 : (List.range (n * 34))[i]? = none := List.getElem?_eq_none (by simp; omega)
  have e2 : (Rc (List.replicate n rf0))[i]? = none := List.getElem?_eq_none (by omega)
  rw [e1]; exact e2.symm
theorem foldl_mem {α β : Type} {f g : β → α → β} : ∀ {l : List α} {s : β}, (∀ s, ∀ x ∈ l, f s x = g s x) → l.foldl f s = l.foldl g s
 | [], _, _ => rfl
 | a :: l, s, h => by
  rw [List.foldl_cons, List.foldl_cons, h s a (List.mem_cons_self ..)]
  exact foldl_mem fun s x hx => h s x (List.mem_cons_of_mem _ hx)
theorem foldl_skip {α β : Type} {f : β → α → β} {p : α → Bool} : ∀ {l : List α} {s : β}, l.foldl (fun s x => if p x then f s x else s) s = (l.filter p).foldl f s
 | [], _ => rfl
 | a :: l, s => by
  rw [List.foldl_cons, List.filter_cons]
  split
  ·rw [List.foldl_cons]; exact foldl_skip
  ·exact foldl_skip
theorem eq_of_sortedN {a b : List Nat} (ha : a.Pairwise (· < ·)) (hb : b.Pairwise (· < ·)) (h : ∀ x, x ∈ a ↔ x ∈ b) : a = b := by
 have na : a.Nodup := ha.imp fun {x y} hxy => by omega
 have nb : b.Nodup := hb.imp fun {x y} hxy => by omega
 exact List.Perm.eq_of_pairwise (le := fun x y : Nat => x < y) (fun x y _ _ h1 h2 => by omega) ha hb ((List.perm_ext_iff_of_nodup na nb).2 h)
def isPg (cs : List (Int × List Int)) (i : Nat) : Bool := (pgs cs).contains ((i : Nat) : Int)
def chg (cs : List (Int × List Int)) (i : Nat) : List Int := ((cs.find? (fun c => c.1 == ((i : Nat) : Int))).map (·.2)).getD []
section
variable (P : Nat) (key : List Int) (e : Int) (cs : List (Int × List Int))
def stepI (s : PSt) (i : Nat) : PSt := if isPg cs i then hid P key e s i (chg cs i) else if (needN P (pgs cs)).contains i then stepN P key e s i else s
def planI (l : List (Int × List Rf)) (root : Rf) (n : Nat) : PSt := (List.range n).foldl (stepI P key e cs) (plan0 l root)
end
section
variable {P : Nat} {key : List Int} {e : Int} {l : List (Int × List Rf)} {root : Rf} {cs : List (Int × List Int)}
theorem chs_sorted (hm : MayN P l cs) : (cs.map (·.1.toNat)).Pairwise (· < ·) := by
 rw [List.pairwise_map, List.pairwise_iff_getElem]
 intro i j hi hj hij
 obtain ⟨h0, _, _, h4⟩ := hm.ch j _ (List.getElem?_eq_getElem hj)
 have h5 := h4 i _ hij (List.getElem?_eq_getElem hi)
 have h6 := (hm.ch i _ (List.getElem?_eq_getElem hi)).1
 omega
theorem chg_at (hm : MayN P l cs) {c : Int × List Int} (hc : c ∈ cs) : chg cs c.1.toNat = c.2 := by
 obtain ⟨j, hj, rfl⟩ := List.mem_iff_getElem.1 hc
 obtain ⟨h0, _, _, h4⟩ := hm.ch j _ (List.getElem?_eq_getElem hj)
 unfold chg
 have : cs.find? (fun c => c.1 == ((cs[j].1.toNat : Nat) : Int)) = some cs[j] := by
  rw [List.find?_eq_some_iff_getElem]
  refine ⟨by simp; omega, j, hj, rfl, fun k hk => ?_⟩
  have := h4 k _ hk (List.getElem?_eq_getElem (by omega))
  simp only [Bool.not_eq_true', beq_eq_false_iff_ne, ne_eq]
  omega
 rw [this]; rfl
theorem isPg_iff (hm : MayN P l cs) {i : Nat} : isPg cs i = true ↔ ∃ c ∈ cs, c.1.toNat = i := by
 unfold isPg pgs
 rw [List.contains_iff_mem, List.mem_map]
 constructor
 ·rintro ⟨c, hc, h⟩
  exact ⟨c, hc, by omega⟩
 ·rintro ⟨c, hc, rfl⟩
  obtain ⟨j, hj, rfl⟩ := List.mem_iff_getElem.1 hc
  obtain ⟨h0, _⟩ := hm.ch j _ (List.getElem?_eq_getElem hj)
  exact ⟨_, hc, by omega⟩
theorem isPg_lt (hm : MayN P l cs) {i : Nat} (h : isPg cs i = true) : i < P := by
 obtain ⟨c, hc, rfl⟩ := (isPg_iff hm).1 h
 obtain ⟨j, hj, rfl⟩ := List.mem_iff_getElem.1 hc
 obtain ⟨h0, h1, _⟩ := hm.ch j _ (List.getElem?_eq_getElem hj)
 omega
theorem planI_all (hP : 1 ≤ P ∧ P ≤ 216) (hm : MayN P l cs) : planI P key e cs l root (itm P) = planF P key e l root cs := by
 have hil := itm_le hP
 unfold planI
 have e1 : (List.range (itm P)).foldl (stepI P key e cs) (plan0 l root) = (List.range (itm P)).foldl (fun s i => if (isPg cs i || (needN P (pgs cs)).contains i) then stepI P key e cs s i else s) (plan0 l root) := by
  refine foldl_mem fun s x _ => ?_
  unfold stepI
  by_cases h1 : isPg cs x = true
  ·simp [h1]
  ·by_cases h2 : (needN P (pgs cs)).contains x = true
   ·simp only [h1, h2, Bool.or_true, if_true]
   ·rw [if_neg h1, if_neg h2, if_neg (by rw [Bool.or_eq_true]; exact fun h => h.elim h1 h2)]
 rw [e1, foldl_skip]
 have e2 : (List.range (itm P)).filter (fun i => isPg cs i || (needN P (pgs cs)).contains i) = cs.map (·.1.toNat) ++ needN P (pgs cs) := by
  refine eq_of_sortedN (List.pairwise_lt_range.filter _) ?_ fun x => ?_
  ·rw [List.pairwise_append]
   refine ⟨chs_sorted hm, need_sorted .., fun a ha b hb => ?_⟩
   obtain ⟨c, hc, rfl⟩ := List.mem_map.1 ha
   have := isPg_lt hm ((isPg_iff hm).2 ⟨c, hc, rfl⟩)
   have h2 := (need_lv hP hb).2.1
   omega
  ·simp only [List.mem_filter, List.mem_range, Bool.or_eq_true, List.contains_iff_mem, List.mem_append, List.mem_map, isPg_iff hm]
   constructor
   ·rintro ⟨_, h | h⟩
    ·exact .inl h
    ·exact .inr h
   ·rintro (h | h)
    ·have := isPg_lt hm ((isPg_iff hm).2 h)
     exact ⟨by omega, .inl h⟩
    ·exact ⟨(need_lv hP h).1, .inr h⟩
 rw [e2, List.foldl_append, List.foldl_map]
 have e3 : cs.foldl (fun s c => stepI P key e cs s c.1.toNat) (plan0 l root) = planC P key e l root cs := by
  unfold planC
  refine foldl_mem fun s c hc => ?_
  unfold stepI stepC
  rw [if_pos ((isPg_iff hm).2 ⟨c, hc, rfl⟩), chg_at hm hc]
 rw [e3]
 unfold planF
 refine foldl_mem fun s u hu => ?_
 unfold stepI
 have hn : ¬ isPg cs u = true := fun h => by
  have := isPg_lt hm h
  have h2 := (need_lv hP hu).2.1
  omega
 rw [if_neg hn, if_pos (List.contains_iff_mem.2 hu)]
theorem planI_snoc (n : Nat) : planI P key e cs l root (n + 1) = stepI P key e cs (planI P key e cs l root n) n := by
 unfold planI
 rw [List.range_succ]; simp
def kidsF (P : Nat) (l : List (Int × List Rf)) (frl : List Rf) (tl : List Bool) (u : Nat) : List Rf :=
 (List.range (kidC P u)).map fun k => if tl.getD (kidF P u + k) false then frl.getD (kidF P u + k) rf0 else (orig l u).getD k rf0
structure FrInv (P : Nat) (l : List (Int × List Rf)) (root : Rf) (N : List Nat) (s : PSt) (frl : List Rf) (tl : List Bool) (i : Nat) : Prop where
 rows : ∀ u ∈ N, s.rows u = kidsF P l frl tl u
 old : ∀ j, tl.getD j false = true → j < i
 root : i < itm P → s.root = root
 lf : frl.length = itm P
 lt : tl.length = itm P
 ok : RsOk frl
theorem getD_set {α : Type} {xs : List α} {i j : Nat} {v d : α} (hi : i < xs.length) : (xs.set i v).getD j d = if j = i then v else xs.getD j d := by
 simp only [List.getD_eq_getElem?_getD]
 rw [List.getElem?_set]
 by_cases h : i = j
 ·subst h; simp [hi]
 ·rw [if_neg h, if_neg (fun e => h e.symm)]
theorem FrInv.step {N : List Nat} {s : PSt} {frl : List Rf} {tl : List Bool} {i : Nat} (h : FrInv P l root N s frl tl i) (hP : 1 ≤ P ∧ P ≤ 216) (hi : i < itm P) (hN : ∀ u ∈ N, u < itm P) {r : Rf} (hr : r.Ok) (pts : List (Int × List Int)) (nds : List (Int × List Rf)) :
  FrInv P l root N ⟨rowsTo P s.rows i r, rootTo P s.root i r, pts, nds⟩ (frl.set i r) (tl.set i true) (i + 1) := by
 have hlf := h.lf; have hlt := h.lt
 refine ⟨fun u hu => ?_, fun j hj => ?_, fun hlt2 => ?_, by rw [List.length_set]; exact hlf, by rw [List.length_set]; exact hlt, rsok_set h.ok hr⟩
 ·show rowsTo P s.rows i r u = _
  unfold rowsTo
  have hsame : (∀ k, k < kidC P u → kidF P u + k ≠ i) → s.rows u = kidsF P l (frl.set i r) (tl.set i true) u := by
   intro hno
   rw [h.rows u hu]
   unfold kidsF
   apply List.map_congr_left
   intro k hk
   have hk' := hno k (List.mem_range.1 hk)
   rw [getD_set (by omega), getD_set (by omega), if_neg hk', if_neg hk']
  split
  ·rename_i hroot
   refine hsame fun k hk e => ?_
   obtain ⟨a, b, c, d⟩ := kid_par hP (hN u hu) hk
   rw [e] at b
   have h1 := (root_iff hP hi).1 hroot
   have h2 := (lv_spec hP (hN u hu)).1
   omega
  ·rename_i hroot
   have hlv : lvN P i + 1 < nl P := by
    have := lv_spec hP hi
    have h2 := root_iff hP hi
    omega
   obtain ⟨hp1, hp2⟩ := par_kid hP hi hlv
   split
   ·rename_i hup
    subst hup
    rw [h.rows _ hu]
    unfold kidsF
    apply List.ext_getElem?
    intro k
    rw [List.getElem?_set]
    by_cases hk : k < kidC P (parP P i)
    ·rw [List.getElem?_map, List.getElem?_range hk, List.getElem?_map, List.getElem?_range hk, List.length_map, List.length_range]
     simp only [Option.map_some]
     rw [getD_set (by omega), getD_set (by omega)]
     by_cases hka : parA P i = k
     ·subst hka
      rw [if_pos rfl, if_pos hk, if_pos hp2, if_pos hp2]; rfl
     ·have : kidF P (parP P i) + k ≠ i := by omega
      rw [if_neg hka, if_neg this, if_neg this]
    ·have n1 : ∀ (f : Nat → Rf), ((List.range (kidC P (parP P i))).map f)[k]? = none := fun f => List.getElem?_eq_none (by simp; omega)
     rw [n1, n1, if_neg (by omega)]
   ·rename_i hup
    refine hsame fun k hk e => hup ?_
    obtain ⟨a, b, c, d⟩ := kid_par hP (hN u hu) hk
    rw [e] at c
    exact c.symm
 ·rw [getD_set (by omega)] at hj
  split at hj
  ·omega
  ·have := h.old j hj; omega
 ·show rootTo P s.root i r = root
  unfold rootTo
  rw [if_neg (by omega)]
  exact h.root (by omega)
theorem FrInv.skip {N : List Nat} {s : PSt} {frl : List Rf} {tl : List Bool} {i : Nat} (h : FrInv P l root N s frl tl i) : FrInv P l root N s frl tl (i + 1) :=
 ⟨h.rows, fun j hj => by have := h.old j hj; omega, fun hi => h.root (by omega), h.lf, h.lt, h.ok⟩
theorem FrInv.was {N : List Nat} {s : PSt} {frl : List Rf} {tl : List Bool} {i : Nat} (h : FrInv P l root N s frl tl i) (hP : 1 ≤ P ∧ P ≤ 216) (hi : i < itm P) (hpar : i + 1 = itm P ∨ parP P i ∈ N) :
  wasOf P s.rows s.root i = if i + 1 = itm P then root else (orig l (parP P i)).getD (parA P i) rf0 := by
 unfold wasOf
 split
 ·exact h.root hi
 ·rename_i hroot
  have hpn := hpar.resolve_left hroot
  have hlv : lvN P i + 1 < nl P := by
   have := lv_spec hP hi
   have h2 := root_iff hP hi
   omega
  obtain ⟨hp1, hp2⟩ := par_kid hP hi hlv
  rw [h.rows _ hpn]
  unfold kidsF
  rw [List.getD_eq_getElem?_getD, List.getElem?_map, List.getElem?_range hp1]
  simp only [Option.map_some, Option.getD_some, hp2]
  rw [if_neg]
  intro ht
  have := h.old i ht
  omega
theorem getD_rep {α : Type} (n j : Nat) (d : α) : (List.replicate n d).getD j d = d := by
 rw [List.getD_eq_getElem?_getD, List.getElem?_replicate]; split <;> rfl
theorem FrInv.start (hm : MayN P l cs) (hok : NdOk l) : FrInv P l root (needN P (pgs cs)) (plan0 l root) (List.replicate (itm P) rf0) (List.replicate (itm P) false) 0 := by
 refine ⟨fun u hu => ?_, fun j hj => ?_, fun _ => rfl, by simp, by simp, fun r hr => ?_⟩
 ·show orig l u = _
  obtain ⟨_, h2, _⟩ := orig_ok hm hok hu
  unfold kidsF
  apply List.ext_getElem?
  intro k
  by_cases hk : k < kidC P u
  ·rw [List.getElem?_map, List.getElem?_range hk]
   simp only [Option.map_some, getD_rep, Bool.false_eq_true, if_false]
   rw [List.getD_eq_getElem?_getD, List.getElem?_eq_getElem (by omega)]; rfl
  ·rw [List.getElem?_eq_none (by omega), List.getElem?_eq_none (by simp; omega)]
 ·rw [getD_rep] at hj; cases hj
 ·obtain ⟨_, rfl⟩ := List.mem_replicate.1 hr
  exact ⟨by decide, fun x hx => by obtain ⟨_, rfl⟩ := List.mem_replicate.1 hx; exact ⟨by decide, by decide⟩, ⟨by decide, by decide⟩⟩
end
end Go.Proofs.YtpkfdhlkknanmaaGreat
