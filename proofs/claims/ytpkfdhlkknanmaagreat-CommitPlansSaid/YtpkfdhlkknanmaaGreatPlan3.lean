/-
 Plans: the law.
-/
import Derived.Test.YtpkfdhlkknanmaaGreatPlan2
set_option linter.all false
namespace Go.Proofs.YtpkfdhlkknanmaaGreat
open Go Go.RowKit Go.Proofs
structure PSt where
 rows : Nat → List Rf
 root : Rf
 pts : List (Int × List Int)
 nds : List (Int × List Rf)
def orig (l : List (Int × List Rf)) (u : Nat) : List Rf := (fnd l ((u : Nat) : Int)).getD []
section
variable (P : Nat) (key : List Int) (e : Int)
def hid (s : PSt) (i : Nat) (page : List Int) : PSt :=
 ⟨rowsTo P s.rows i (newRf key e i (wasOf P s.rows s.root i) page), rootTo P s.root i (newRf key e i (wasOf P s.rows s.root i) page), s.pts ++ [(blkOf i (wasOf P s.rows s.root i), sealB key e (blkOf i (wasOf P s.rows s.root i)) page)], s.nds⟩
def stepC (s : PSt) (c : Int × List Int) : PSt := hid P key e s c.1.toNat c.2
def stepN (s : PSt) (u : Nat) : PSt := hid P key e ⟨s.rows, s.root, s.pts, s.nds ++ [(((u : Nat) : Int), s.rows u)]⟩ u (nodeL (s.rows u))
def plan0 (l : List (Int × List Rf)) (root : Rf) : PSt := ⟨orig l, root, [], []⟩
def planC (l : List (Int × List Rf)) (root : Rf) (cs : List (Int × List Int)) : PSt := cs.foldl (stepC P key e) (plan0 l root)
def planN (l : List (Int × List Rf)) (root : Rf) (cs : List (Int × List Int)) (n : Nat) : PSt := ((needN P (pgs cs)).take n).foldl (stepN P key e) (planC P key e l root cs)
def planF (l : List (Int × List Rf)) (root : Rf) (cs : List (Int × List Int)) : PSt := (needN P (pgs cs)).foldl (stepN P key e) (planC P key e l root cs)
end
structure SOk (P : Nat) (N : List Nat) (s : PSt) : Prop where
 len : ∀ u ∈ N, (s.rows u).length = kidC P u ∧ RsOk (s.rows u) ∧ ∀ r ∈ s.rows u, PlOk r
 root : s.root.Ok ∧ PlOk s.root
section
variable {P : Nat} {key : List Int} {e : Int} {N : List Nat} {s : PSt} {i : Nat} {page : List Int}
theorem newRf_pl {r0 : Rf} (h : PlOk r0) : PlOk (newRf key e i r0 page) := by
 unfold PlOk newRf at *
 dsimp only
 omega
theorem SOk.was (h : SOk P N s) (hP : 1 ≤ P ∧ P ≤ 216) (hi : i < itm P) (hpar : i + 1 = itm P ∨ parP P i ∈ N) : PlOk (wasOf P s.rows s.root i) ∧ (wasOf P s.rows s.root i).Ok := by
 unfold wasOf
 split
 ·exact ⟨h.root.2, h.root.1⟩
 ·rename_i hroot
  have hpn := hpar.resolve_left hroot
  obtain ⟨h1, h2, h3⟩ := h.len _ hpn
  have hlv : lvN P i + 1 < nl P := by
   have := lv_spec hP hi
   have h2 := root_iff hP hi
   omega
  obtain ⟨hp1, _⟩ := par_kid hP hi hlv
  have hil : parA P i < (s.rows (parP P i)).length := by omega
  rw [List.getD_eq_getElem?_getD, List.getElem?_eq_getElem hil]
  exact ⟨h3 _ (List.getElem_mem hil), h2 _ (List.getElem_mem hil)⟩
theorem SOk.hid (h : SOk P N s) (hP : 1 ≤ P ∧ P ≤ 216) (he : R32 e) (hi : i < itm P) (hpar : i + 1 = itm P ∨ parP P i ∈ N) : SOk P N (hid P key e s i page) := by
 obtain ⟨w1, w2⟩ := h.was hP hi hpar
 have ho : (newRf key e i (wasOf P s.rows s.root i) page).Ok := newRf_ok he w1
 have hp : PlOk (newRf key e i (wasOf P s.rows s.root i) page) := newRf_pl w1
 constructor
 ·intro u hu
  obtain ⟨h1, h2, h3⟩ := h.len u hu
  show (rowsTo P s.rows i _ u).length = _ ∧ RsOk (rowsTo P s.rows i _ u) ∧ ∀ r ∈ rowsTo P s.rows i _ u, PlOk r
  unfold rowsTo
  split
  ·exact ⟨h1, h2, h3⟩
  ·split
   ·refine ⟨by rw [List.length_set]; exact h1, rsok_set h2 ho, fun r hr => ?_⟩
    rcases List.mem_or_eq_of_mem_set hr with hr | rfl
    ·exact h3 r hr
    ·exact hp
   ·exact ⟨h1, h2, h3⟩
 ·show (rootTo P s.root i _).Ok ∧ PlOk (rootTo P s.root i _)
  unfold rootTo
  split
  ·exact ⟨ho, hp⟩
  ·exact h.root
end
section
variable {P : Nat} {ps : List Int}
theorem up_succ (P i k : Nat) : up P i (k + 1) = parP P (up P i k) := rfl
theorem pathI_get {p k : Nat} (hp : p < P) (hk : k < nl P) : (pathI P (p : Nat))[k]? = some (up P p k) := by
 unfold pathI pathN
 rw [if_pos ⟨by omega, by omega⟩, Int.toNat_natCast, List.getElem?_map, List.getElem?_range hk]; rfl
theorem page_par (hP : 1 ≤ P ∧ P ≤ 216) {p : Nat} (hp : p < P) (hm : ((p : Nat) : Int) ∈ ps) : parP P p ∈ needN P ps := by
 have hnl := nl_le P
 have h1 : (pathI P (p : Nat))[1]? = some (parP P p) := pathI_get (k := 1) hp (by omega)
 obtain ⟨a, b, c⟩ := path_at hP h1
 exact need_mem.2 ⟨a, c.2 (by decide), _, hm, List.mem_of_getElem? h1⟩
theorem need_par (hP : 1 ≤ P ∧ P ≤ 216) {i : Nat} (hi : i ∈ needN P ps) : i + 1 = itm P ∨ parP P i ∈ needN P ps := by
 obtain ⟨h1, h2, p, hp, hm⟩ := need_mem.1 hi
 obtain ⟨k, hkl, hk⟩ := List.mem_iff_getElem.1 hm
 have hk' : (pathI P p)[k]? = some i := by rw [List.getElem?_eq_getElem hkl, hk]
 obtain ⟨a, b, c⟩ := path_at hP hk'
 by_cases hr : i + 1 = itm P
 ·exact .inl hr
 ·right
  have hlv : k + 1 < nl P := by
   have := (lv_spec hP h1).1
   have h3 := root_iff hP h1
   omega
  have hpp : 0 ≤ p ∧ p < P := by
   unfold pathI at hk'
   split at hk'
   ·rename_i h; exact h
   ·simp at hk'
  obtain ⟨q, rfl⟩ : ∃ q : Nat, p = q := ⟨p.toNat, by omega⟩
  have e1 := pathI_get (P := P) (p := q) (k := k) (by omega) (by omega)
  rw [hk'] at e1
  cases e1
  have e2 := pathI_get (P := P) (p := q) (k := k + 1) (by omega) hlv
  rw [up_succ] at e2
  obtain ⟨a2, b2, c2⟩ := path_at hP e2
  exact need_mem.2 ⟨a2, c2.2 (by omega), _, hp, List.mem_of_getElem? e2⟩
theorem need_lv (hP : 1 ≤ P ∧ P ≤ 216) {i : Nat} (hi : i ∈ needN P ps) : i < itm P ∧ P ≤ i ∧ 1 ≤ kidC P i ∧ kidC P i ≤ 6 := by
 obtain ⟨h1, h2, p, hp, hm⟩ := need_mem.1 hi
 obtain ⟨k, hkl, hk⟩ := List.mem_iff_getElem.1 hm
 have hk' : (pathI P p)[k]? = some i := by rw [List.getElem?_eq_getElem hkl, hk]
 obtain ⟨a, b, c⟩ := path_at hP hk'
 exact ⟨h1, h2, kidC_pos hP h1 (by have := c.1 h2; omega), kidC_le P i⟩
end
section
variable {P : Nat} {key : List Int} {e : Int} {l : List (Int × List Rf)} {root : Rf} {cs : List (Int × List Int)}
theorem orig_ok (hm : MayN P l cs) (hok : NdOk l) {u : Nat} (hu : u ∈ needN P (pgs cs)) : fnd l ((u : Nat) : Int) = some (orig l u) ∧ (orig l u).length = kidC P u ∧ RsOk (orig l u) ∧ ∀ r ∈ orig l u, PlOk r := by
 obtain ⟨rs, h1, h2, h3⟩ := hm.nd u hu
 have : orig l u = rs := by unfold orig; rw [h1]; rfl
 rw [this]
 exact ⟨h1, h2, (fnd_ok hok h1).1, h3⟩
theorem sok0 (hm : MayN P l cs) (hok : NdOk l) (hr : root.Ok) (hp : PlOk root) : SOk P (needN P (pgs cs)) (plan0 l root) :=
 ⟨fun u hu => (orig_ok hm hok hu).2, hr, hp⟩
theorem chg_par (hP : 1 ≤ P ∧ P ≤ 216) (hm : MayN P l cs) {i : Nat} {c : Int × List Int} (hc : cs[i]? = some c) : c.1 = (c.1.toNat : Nat) ∧ c.1.toNat < P ∧ c.1.toNat < itm P ∧ (c.1.toNat + 1 = itm P ∨ parP P c.1.toNat ∈ needN P (pgs cs)) ∧ c.2.length = 256 := by
 obtain ⟨h1, h2, h3, _⟩ := hm.ch i c hc
 have := itm_le hP
 have he : c.1 = (c.1.toNat : Nat) := by omega
 refine ⟨he, by omega, by omega, .inr (page_par hP (by omega) ?_), h3⟩
 rw [← he]
 exact List.mem_map.2 ⟨c, List.mem_of_getElem? hc, rfl⟩
theorem planC_snoc {i : Nat} {c : Int × List Int} (hc : cs[i]? = some c) : (cs.take (i + 1)).foldl (stepC P key e) (plan0 l root) = stepC P key e ((cs.take i).foldl (stepC P key e) (plan0 l root)) c := by
 rw [List.take_succ, hc]; simp
theorem planN_snoc {i : Nat} {u : Nat} (hu : (needN P (pgs cs))[i]? = some u) : planN P key e l root cs (i + 1) = stepN P key e (planN P key e l root cs i) u := by
 unfold planN
 rw [List.take_succ, hu]; simp
theorem sokC (hP : 1 ≤ P ∧ P ≤ 216) (he : R32 e) (hm : MayN P l cs) (hok : NdOk l) (hr : root.Ok) (hp : PlOk root) : ∀ i, i ≤ cs.length → SOk P (needN P (pgs cs)) ((cs.take i).foldl (stepC P key e) (plan0 l root)) ∧ ((cs.take i).foldl (stepC P key e) (plan0 l root)).pts.length = i ∧ ((cs.take i).foldl (stepC P key e) (plan0 l root)).nds = []
 | 0, _ => ⟨sok0 hm hok hr hp, rfl, rfl⟩
 | i + 1, h => by
  obtain ⟨h1, h2, h3⟩ := sokC hP he hm hok hr hp i (by omega)
  obtain ⟨c, hc⟩ : ∃ c, cs[i]? = some c := ⟨_, List.getElem?_eq_getElem (by omega)⟩
  obtain ⟨_, _, c3, c4, _⟩ := chg_par hP hm hc
  rw [planC_snoc hc]
  exact ⟨h1.hid hP he c3 c4, by show (_ ++ [_]).length = _; rw [List.length_append, h2]; rfl, h3⟩
theorem sokN (hP : 1 ≤ P ∧ P ≤ 216) (he : R32 e) (hm : MayN P l cs) (hok : NdOk l) (hr : root.Ok) (hp : PlOk root) : ∀ i, i ≤ (needN P (pgs cs)).length → SOk P (needN P (pgs cs)) (planN P key e l root cs i) ∧ (planN P key e l root cs i).pts.length = cs.length + i ∧ (planN P key e l root cs i).nds.length = i
 | 0, _ => by
  obtain ⟨h1, h2, h3⟩ := sokC (key := key) hP he hm hok hr hp cs.length (Nat.le_refl _)
  rw [List.take_length] at h1 h2 h3
  exact ⟨h1, h2, by show (planC P key e l root cs).nds.length = 0; unfold planC; rw [h3]; rfl⟩
 | i + 1, h => by
  obtain ⟨h1, h2, h3⟩ := sokN hP he hm hok hr hp i (by omega)
  obtain ⟨u, hu⟩ : ∃ u, (needN P (pgs cs))[i]? = some u := ⟨_, List.getElem?_eq_getElem (by omega)⟩
  have hum := List.mem_of_getElem? hu
  rw [planN_snoc hu]
  refine ⟨SOk.hid (s := ⟨_, _, _, _⟩) ⟨h1.len, h1.root⟩ hP he (need_lv hP hum).1 (need_par hP hum), ?_, ?_⟩
  ·show (_ ++ [_]).length = _; rw [List.length_append, h2]; rfl
  ·show (_ ++ [_]).length = _; rw [List.length_append, h3]; rfl
theorem planN_all : planN P key e l root cs (needN P (pgs cs)).length = planF P key e l root cs := by
 unfold planN planF
 rw [List.take_length]
theorem nds_ok (hP : 1 ≤ P ∧ P ≤ 216) (he : R32 e) (hm : MayN P l cs) (hok : NdOk l) (hr : root.Ok) (hp : PlOk root) : ∀ x ∈ (planF P key e l root cs).nds, RsOk x.2 ∧ x.2.length ≤ 6 := by
 rw [← planN_all]
 have : ∀ i, i ≤ (needN P (pgs cs)).length → ∀ x ∈ (planN P key e l root cs i).nds, RsOk x.2 ∧ x.2.length ≤ 6 := by
  intro i
  induction i with
  | zero =>
   intro _ x hx
   obtain ⟨_, _, h3⟩ := sokC (key := key) hP he hm hok hr hp cs.length (Nat.le_refl _)
   rw [List.take_length] at h3
   have hx' : x ∈ (planC P key e l root cs).nds := hx
   unfold planC at hx'
   rw [h3] at hx'
   cases hx'
  | succ i ih =>
   intro hi x hx
   obtain ⟨u, hu⟩ : ∃ u, (needN P (pgs cs))[i]? = some u := ⟨_, List.getElem?_eq_getElem (by omega)⟩
   have hum := List.mem_of_getElem? hu
   obtain ⟨h1, _, _⟩ := sokN (key := key) hP he hm hok hr hp i (by omega)
   rw [planN_snoc hu] at hx
   have hx' : x ∈ (planN P key e l root cs i).nds ++ [(((u : Nat) : Int), (planN P key e l root cs i).rows u)] := hx
   rcases List.mem_append.1 hx' with hx' | hx'
   ·exact ih (by omega) x hx'
   ·rw [List.mem_singleton] at hx'
    subst hx'
    obtain ⟨g1, g2, _⟩ := h1.len u hum
    exact ⟨g2, by show ((planN P key e l root cs i).rows u).length ≤ 6; rw [g1]; exact kidC_le P u⟩
 exact this _ (Nat.le_refl _)
theorem planC_all : (cs.take cs.length).foldl (stepC P key e) (plan0 l root) = planC P key e l root cs := by
 rw [List.take_length]; rfl
end
end Go.Proofs.YtpkfdhlkknanmaaGreat
