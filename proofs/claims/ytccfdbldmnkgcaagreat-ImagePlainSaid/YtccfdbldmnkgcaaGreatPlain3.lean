/-
  All pages; comparisons of bytes and of pages; the document's list of pages.
-/
import Derived.Test.YtccfdbldmnkgcaaGreatPlain2
set_option linter.all false
namespace Go.Proofs.YtccfdbldmnkgcaaGreat
open Go Go.RowKit Go.Proofs

theorem same_ok {w : World} {A B : Option Addr} {n m c d : Nat} {l k : List Int} (hl : l.length = n) (hk : k.length = m) (ha : RdS w A (By l)) (hb : RdS w B (By k)) (hn : n ≤ 1099511627776) :
    Ret Tryz.prog 13 #[.slice A n c, .slice B m d] w fun v w' => v = .bool (decide (l = k)) ∧ Ext w w' := by
  refine L_13 A n c B m d w _ ⟨fun h => ⟨?_, Mod.refl _ _⟩, fun h => ?_⟩
  · have : l ≠ k := by rintro rfl; omega
    rw [decide_eq_false this]
  · have hnm : n = m := by omega
    subst hnm
    refine ⟨fun x w1 => ∃ i : Nat, x = i ∧ i ≤ n ∧ l.take i = k.take i ∧ Ext w w1, fun x _ => (n - x).toNat, ⟨0, rfl, by omega, by simp, Mod.refl _ _⟩, ?_⟩
    rintro x w1 ⟨i, rfl, hi, heq, hm⟩
    refine ⟨fun hlt => ?_, fun hge => ?_⟩
    · intro w2 e2
      have hil : i < l.length := by omega
      have hik : i < k.length := by omega
      have h1 := By_get (List.getElem?_eq_getElem hil)
      have h2 := By_get (List.getElem?_eq_getElem hik)
      rcases ha.ext hm with e | ⟨b1, o1, e1, r1⟩
      · rw [e] at h1; cases h1
      rcases hb.ext hm with e | ⟨b2, o2, e3, r2⟩
      · rw [e] at h2; cases h2
      have m2 := hm.drew e2
      refine ⟨b1, o1, e1, by omega, hlt, l[i], by simpa using r1 i _ h1, b2, o2, e3, by omega, by omega, k[i], by simpa using r2 i _ h2, fun hne => ⟨?_, m2⟩, fun he => ?_⟩
      · have : l ≠ k := by rintro rfl; exact hne rfl
        rw [decide_eq_false this]
      · have hw : IntKind.i64.wrap ((i : Int) + 1) = ((i + 1 : Nat) : Int) := by rw [wrap_i64 (by omega) (by omega)]; omega
        rw [hw]
        refine ⟨⟨i + 1, rfl, by omega, ?_, m2⟩, by simp only; omega⟩
        rw [List.take_succ_eq_append_getElem hil, List.take_succ_eq_append_getElem hik, heq, he]
    · have : i = n := by omega
      subst this
      rw [List.take_of_length_le (by omega), List.take_of_length_le (by omega)] at heq
      exact ⟨by rw [decide_eq_true heq], hm⟩

/-- A slice of pages. -/
def PgS (φ : Nat → Prop) (w : World) (A : Option Addr) (ps : List (List Int)) : Prop := ∃ vals, RdP φ w A vals ∧ PgsL φ w vals ps
theorem PgS.mod {φ ψ : Nat → Prop} {w w' : World} {A : Option Addr} {ps : List (List Int)} (h : PgS φ w A ps) (hm : Mod ψ w w') (hn : ∀ k, φ k → ¬ ψ k) : PgS φ w' A ps :=
  let ⟨v, h1, h2⟩ := h; ⟨v, h1.mod hm hn, h2.mod hm hn⟩
theorem PgS.ext {φ : Nat → Prop} {w w' : World} {A : Option Addr} {ps : List (List Int)} (h : PgS φ w A ps) (hm : Ext w w') : PgS φ w' A ps := h.mod hm fun _ _ h => h
theorem PgS.mono {φ ψ : Nat → Prop} {w : World} {A : Option Addr} {ps : List (List Int)} (h : PgS φ w A ps) (hp : ∀ k, k < w.heap.size → φ k → ψ k) : PgS ψ w A ps :=
  let ⟨v, h1, h2⟩ := h; ⟨v, h1.mono hp, h2.mono hp⟩

theorem like_ok {w : World} {A B : Option Addr} {n m c d : Nat} {φ ψ : Nat → Prop} {l k : List (List Int)} (hl : l.length = n) (hk : k.length = m) (ha : PgS φ w A l) (hb : PgS ψ w B k) (hn : n ≤ 1099511627776) (hall : ∀ p ∈ l, p.length ≤ 1099511627776) :
    Ret Tryz.prog 20 #[.slice A n c, .slice B m d] w fun v w' => v = .bool (decide (l = k)) ∧ Ext w w' := by
  obtain ⟨va, a1, a2⟩ := ha
  obtain ⟨vb, b1, b2⟩ := hb
  refine L_20 A n c B m d w _ ⟨fun h => ⟨?_, Mod.refl _ _⟩, fun h => ?_⟩
  · have : l ≠ k := by rintro rfl; omega
    rw [decide_eq_false this]
  · have hnm : n = m := by omega
    subst hnm
    refine ⟨fun x w1 => ∃ i : Nat, x = i ∧ i ≤ n ∧ l.take i = k.take i ∧ Ext w w1, fun x _ => (n - x).toNat, ⟨0, rfl, by omega, by simp, Mod.refl _ _⟩, ?_⟩
    rintro x w1 ⟨i, rfl, hi, heq, hm⟩
    refine ⟨fun hlt => ?_, fun hge => ?_⟩
    · intro w2 e2
      have hil : i < l.length := by omega
      have hik : i < k.length := by omega
      obtain ⟨Aa, ca, hva, hra⟩ := a2.2 i _ (List.getElem?_eq_getElem hil)
      obtain ⟨Ab, cb, hvb, hrb⟩ := b2.2 i _ (List.getElem?_eq_getElem hik)
      obtain ⟨g1, o1, _, e1, r1⟩ := (a1.ext hm).at hva
      obtain ⟨g2, o2, _, e3, r2⟩ := (b1.ext hm).at hvb
      have m2 := hm.drew e2
      refine ⟨g1, o1, e1, by omega, hlt, _, _, _, by simpa using r1, g2, o2, e3, by omega, by omega, _, _, _, by simpa using r2, ?_⟩
      refine (same_ok rfl rfl (hra.ext m2).rd (hrb.ext m2).rd (hall _ (List.getElem_mem hil))).mono ?_
      rintro v w3 ⟨rfl, m3⟩
      refine ⟨_, rfl, fun hne => ⟨?_, m2.trans m3⟩, fun he => ?_⟩
      · have : l ≠ k := by rintro rfl; simp at hne
        rw [decide_eq_false this]
      · have he' : l[i] = k[i] := of_decide_eq_true he
        have hw : IntKind.i64.wrap ((i : Int) + 1) = ((i + 1 : Nat) : Int) := by rw [wrap_i64 (by omega) (by omega)]; omega
        rw [hw]
        refine ⟨⟨i + 1, rfl, by omega, ?_, m2.trans m3⟩, by simp only; omega⟩
        rw [List.take_succ_eq_append_getElem hil, List.take_succ_eq_append_getElem hik, heq, he']
    · have : i = n := by omega
      subst this
      rw [List.take_of_length_le (by omega), List.take_of_length_le (by omega)] at heq
      exact ⟨by rw [decide_eq_true heq], hm⟩

/-- What a loop that gathers pages has so far: a row of its own, with pages in new memory. -/
structure Gath (w0 w : World) (A : Option Addr) (c : Nat) (ps : List (List Int)) : Prop where
  ex : ∃ vals, Own w w0.heap.size 33 1 A ps.length c vals ∧ PgsL (fun n => w0.heap.size ≤ n ∧ ∀ o, A ≠ some ⟨n, o, none⟩) w vals ps
  mod : Ext w0 w

theorem Gath.nil (w : World) : Gath w w none 0 [] := ⟨⟨[], own_nil _ _ _ _, PgsL.nil _ _⟩, Mod.refl _ _⟩
theorem Gath.ext {w0 w w' : World} {A : Option Addr} {c : Nat} {ps : List (List Int)} (h : Gath w0 w A c ps) (hm : Ext w w') : Gath w0 w' A c ps := by
  obtain ⟨⟨v, h1, h2⟩, h3⟩ := h
  exact ⟨⟨v, h1.ext hm fun _ _ _ => id, h2.ext hm⟩, h3.trans hm⟩
theorem Gath.pgs {w0 w : World} {A : Option Addr} {c : Nat} {ps : List (List Int)} (h : Gath w0 w A c ps) : PgS (Fresh w0 w) w A ps := by
  obtain ⟨⟨v, h1, h2⟩, h3⟩ := h
  exact ⟨v, h1.rd, h2.mono fun n hn hp => ⟨hp.1, hn⟩⟩
/-- One page more: the page lies in new memory; a one-element slice is made of it, and appended. -/
theorem Gath.step {w0 w w1 : World} {A : Option Addr} {c n : Nat} {ps : List (List Int)} (h : Gath w0 w A c ps) (hn : n = ps.length) (hfew : n ≤ 1000000) {p : List Int} {B : Option Addr} {d : Nat} (hr : RdP (Fresh w0 w) w B (By p)) (hf : ∀ b o, B = some ⟨b, o, none⟩ → A ≠ some ⟨b, o, none⟩ ∧ ∀ o', A ≠ some ⟨b, o', none⟩)
    {g : Nat} (e1 : g = w.heap.size) (e2 : w1 = w.alloc (.cells ([.slice B p.length d] : List Value).toArray 33)) :
    ∃ l1 l2 : List Value, (n + 1) * 24 ≤ 140737488355328 ∧ l1.length = n * 1 ∧ RdS w1 A l1 ∧ l2.length = 1 * 1 ∧ RdS w1 (some ⟨g, 0, none⟩) l2 ∧ One l2 ∧ (n + 1 ≤ c → Room w1 A (n * 1) (1 * 1)) ∧
      ∀ A2 c2 w2, Appended w1 33 1 #[.slice none 0 0] A n c 1 l1 l2 A2 c2 w2 → Gath w0 w2 A2 c2 (ps ++ [p]) := by
  obtain ⟨⟨vals, hown, hpg⟩, hm⟩ := h
  subst hn
  have m1 : Ext w w1 := (Mod.refl _ _).alloc e2
  have hB : Blk w1 g 33 ([.slice B p.length d] : List Value).toArray := Blk.new e1 e2
  have hown1 := hown.ext m1 fun _ _ _ => id
  have s1 := m1.size
  have s0 := hm.size
  refine ⟨vals, [.slice B p.length d], by omega, by have := hown.len; omega, (hown.rd.ext m1).rd, rfl, .inr ⟨g, 0, rfl, hB.range_all⟩, one_of rfl, fun h => hown1.room h, ?_⟩
  intro A2 c2 w2 ha
  obtain ⟨hO, hM, hA⟩ := hown1.app (m := 1) rfl rfl (by omega) ha
  refine ⟨⟨_, by rw [List.length_append]; exact hO, ?_⟩, (hm.ext m1).then hM (by rintro n hn ⟨o, ho⟩; have := (hown.base n o ho).1; omega)⟩
  refine PgsL.snoc ?_ ?_
  · refine ((hpg.ext m1).lt.mod hM fun n hn ⟨o, ho⟩ => hn.1.2 o ho).mono fun n _ hn => ⟨hn.1.1, fun o ho => ?_⟩
    rcases hA n o ho with h | h
    · exact hn.1.2 o h
    · omega
  · rcases hr with h | ⟨b, o, hb, rfl, hrr⟩
    · exact .inl h
    · have hne := (hf b o rfl).2
      refine .inr ⟨b, o, ⟨hb.1, fun o' ho => ?_⟩, rfl, ?_⟩
      · rcases hA b o' ho with h | h
        · exact hne o' h
        · have := hb.2; omega
      · exact range_mod (range_mod hrr m1 id) hM fun ⟨o', ho'⟩ => hne o' ho'

theorem all_ok {w : World} {bm bs : Nat} {ps : List (List Int)} (h : Img w bm bs ps) : Ret Tryz.prog 19 #[.pointer (some ⟨bm, 0, none⟩)] w fun v w' =>
    ∃ A c, v = .tuple #[.slice A ps.length c, .int .i64 0] ∧ PgS (Fresh w w') w' A ps ∧ Ext w w' := by
  refine L_19 _ w _ ((ok_ok h).mono ?_)
  rintro v w' ⟨rfl, rfl⟩
  refine ⟨true, rfl, fun h => (by cases h), fun _ => (dead_ok h).mono ?_⟩
  rintro v w'' ⟨rfl, rfl⟩
  refine ⟨false, rfl, fun h => (by cases h), fun _ => (pages_ok h).mono ?_⟩
  rintro v w ⟨rfl, rfl⟩
  refine ⟨_, rfl, fun A n c x w1 => ∃ k : Nat, x = k ∧ k ≤ ps.length ∧ n = k ∧ Gath w w1 A c (ps.take k), fun _ _ _ x _ => (ps.length - x).toNat, ⟨0, rfl, by omega, rfl, Gath.nil w⟩, ?_⟩
  rintro A n c x w1 ⟨k, rfl, hk, rfl, hg⟩
  have hi := h.mod (ψ := fun _ => False) hg.mod
  refine ⟨fun hlt => (page_get hi _).mono ?_, fun hge => ?_⟩
  · rintro v w2 (⟨hne, _⟩ | ⟨h0, h1, p, B, d, hp, rfl, hr, m2⟩)
    · exact absurd ⟨by omega, hlt⟩ hne
    · refine ⟨B, p.length, d, 0, rfl, fun h => absurd rfl h, fun _ => ?_⟩
      intro b1 w3 e1 e2
      have hg2 := hg.ext m2
      have htl : (ps.take n).length = n := by rw [List.length_take]; omega
      have hs := hg.mod.size
      have hs2 := m2.size
      have hp' : ps[n]? = some p := by simpa using hp
      obtain ⟨l1, l2, q1, q2, q3, q4, q5, q6, q7, q8⟩ := hg2.step htl.symm (by have := h.few; omega) (p := p) (B := B) (d := d) (hr.mono fun b _ hb => ⟨by have := hb.1; omega, hb.2⟩) (fun b o hb => by
        obtain ⟨⟨v, hown, _⟩, _⟩ := hg
        have hbb : w1.heap.size ≤ b := by
          rcases hr with h | ⟨b', o', hb', e, _⟩
          · have h256 : p.length = 256 := hi.all p (List.mem_of_getElem? hp)
            have := congrArg List.length h
            rw [By_length] at this
            simp at this
            subst this
            simp at h256
          · rw [e] at hb; injection hb with hb; injection hb with hb _; have := hb'.1; omega
        exact ⟨fun ho => by have := (hown.base b o ho).2; omega, fun o' ho => by have := (hown.base b o' ho).2; omega⟩) e1 e2
      refine ⟨l1, l2, q1, q2, q3, q4, q5, q6, q7, fun A2 c2 w4 ha => ?_⟩
      have hw : IntKind.i64.wrap ((n : Int) + 1) = ((n + 1 : Nat) : Int) := by rw [wrap_i64 (by have := h.few; omega) (by have := h.few; omega)]; omega
      rw [hw]
      refine ⟨⟨n + 1, rfl, by omega, rfl, ?_⟩, by simp only; omega⟩
      have := q8 A2 c2 w4 ha
      rwa [List.take_succ, hp', Option.toList_some]
  · have : n = ps.length := by omega
    subst this
    rw [List.take_of_length_le (Nat.le_refl _)] at hg
    exact ⟨A, c, rfl, hg.pgs, hg.mod⟩
end Go.Proofs.YtccfdbldmnkgcaaGreat
