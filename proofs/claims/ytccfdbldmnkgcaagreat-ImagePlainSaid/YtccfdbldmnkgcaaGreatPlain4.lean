/-
  The document's list of pages; the law's own small functions.
-/
import Derived.Test.YtccfdbldmnkgcaaGreatPlain3
set_option linter.all false
namespace Go.Proofs.YtccfdbldmnkgcaaGreat
open Go Go.RowKit Go.Proofs

theorem refNew_ok {w : World} {x : Int} : Ret Tryz.prog 5 #[.int .i64 x] w fun v w' =>
    (¬ (1 ≤ x ∧ x ≤ 216) ∧ v = .tuple #[.slice none 0 0, .int .i64 1] ∧ w' = w) ∨
    (1 ≤ x ∧ x ≤ 216 ∧ ∃ A c, v = .tuple #[.slice A x.toNat c, .int .i64 0] ∧ PgS (Fresh w w') w' A (List.replicate x.toNat zpage) ∧ Ext w w') := by
  refine L_5 x w _ ⟨fun h => .inl ⟨by omega, rfl, rfl⟩, fun h0 => ⟨fun h => .inl ⟨by omega, rfl, rfl⟩, fun h1 => ?_⟩⟩
  refine ⟨fun A n c x2 w1 => ∃ k : Nat, x2 = k ∧ (k : Int) ≤ x ∧ n = k ∧ Gath w w1 A c (List.replicate k zpage), fun _ _ _ x2 _ => (x - x2).toNat, ⟨0, rfl, by omega, rfl, Gath.nil w⟩, ?_⟩
  rintro A n c x2 w1 ⟨k, rfl, hk, rfl, hg⟩
  refine ⟨fun hlt => ⟨by omega, by omega, by omega, ?_⟩, fun hge => ?_⟩
  · intro b1 w2 e1 e2 b2 w3 e3 e4
    have m2 : Ext w1 w2 := (Mod.refl _ _).alloc e2
    have s1 := hg.mod.size
    have s2 := m2.size
    rw [madeCells_eq] at e2
    have hB : Blk w2 b1 5 (List.replicate (256 * 1) (Value.int .u8 0)).toArray := Blk.new e1 e2
    have hr : RdP (Fresh w w2) w2 (some ⟨b1, 0, none⟩) (By zpage) := .inr ⟨b1, 0, ⟨by omega, hB.lt⟩, rfl, by rw [By_zpage]; exact hB.range_all⟩
    have e4' : w3 = w2.alloc (.cells ([.slice (some ⟨b1, 0, none⟩) zpage.length 256] : List Value).toArray 33) := by rw [zpage_length]; exact e4
    obtain ⟨l1, l2, q1, q2, q3, q4, q5, q6, q7, q8⟩ := (hg.ext m2).step (n := n) (by rw [List.length_replicate]) (by omega) hr (fun b o hb => by
      injection hb with hb; injection hb with hb _; subst hb
      obtain ⟨⟨v, hown, _⟩, _⟩ := hg
      exact ⟨fun ho => by have := (hown.base b1 o ho).2; omega, fun o' ho => by have := (hown.base b1 o' ho).2; omega⟩) e3 e4'
    refine ⟨l1, l2, q1, q2, q3, q4, q5, q6, q7, fun A2 c2 w4 ha => ?_⟩
    have hw : IntKind.i64.wrap ((n : Int) + 1) = ((n + 1 : Nat) : Int) := by rw [wrap_i64 (by omega) (by omega)]; omega
    rw [hw]
    refine ⟨⟨n + 1, rfl, by omega, rfl, ?_⟩, by simp only; omega⟩
    rw [replicate_snoc]
    exact q8 A2 c2 w4 ha
  · have : x.toNat = n := by omega
    rw [this]
    exact .inr ⟨by omega, by omega, A, c, rfl, hg.pgs, hg.mod⟩

theorem refSet_ok {w : World} {φ : Nat → Prop} {A B : Option Addr} {n c m d : Nat} {rs : List (List Int)} {l : List Int} {x : Int} (hn : rs.length = n) (hl : l.length = m) (hA : PgS φ w A rs) (hB : RdS w B (By l)) (hfew : n ≤ 1000000) :
    Ret Tryz.prog 10 #[.slice A n c, .int .i64 x, .slice B m d] w fun v w' =>
    (¬ (0 ≤ x ∧ x < (n : Nat) ∧ m = 256) ∧ v = .tuple #[.slice A n c, .int .i64 1] ∧ w' = w) ∨
    (0 ≤ x ∧ x < (n : Nat) ∧ m = 256 ∧ ∃ A' c', v = .tuple #[.slice A' n c', .int .i64 0] ∧ PgS (fun k => φ k ∨ w.heap.size ≤ k) w' A' (rs.set x.toNat l) ∧ Ext w w') := by
  refine L_10 A n c x B m d w _ ⟨fun h => .inl ⟨by omega, rfl, rfl⟩, fun h0 => ⟨fun h => .inl ⟨by omega, rfl, rfl⟩, fun h1 => ⟨fun h => .inl ⟨by omega, rfl, rfl⟩, fun h2 => ?_⟩⟩⟩
  obtain ⟨vals, v1, v2⟩ := hA
  have hvl : vals.length = n := by rw [v2.1, hn]
  have hone : One vals := by
    intro v hv
    obtain ⟨i, hi⟩ := List.getElem?_of_mem hv
    have hlt : i < rs.length := by
      have := (List.getElem?_eq_some_iff.1 hi).1
      omega
    obtain ⟨A', c', h, _⟩ := v2.2 i _ (List.getElem?_eq_getElem hlt)
    rw [hi] at h
    injection h with h
    subst h
    rfl
  refine ⟨[], vals, by omega, rfl, .inl rfl, by omega, v1.rd, hone, fun h => ?_, ?_⟩
  · exact .inl (by omega)
  intro A3 c3 w1 ha
  obtain ⟨hO, hM, hA3⟩ := (own_nil w w.heap.size 33 1).app (m := n) rfl (by omega) (Nat.le_refl _) ha
  have m1 : Ext w w1 := hM.mono fun k _ ⟨o, h⟩ => by cases h
  refine ⟨[], By l, by omega, rfl, .inl rfl, by simp [hl], hB.ext m1, One_By l, fun h => .inl (by omega), ?_⟩
  intro A4 c4 w2 hb
  obtain ⟨hO4, hM4, hA4⟩ := (own_nil w1 w1.heap.size 5 1).app (m := m) rfl (by simp [hl]) (Nat.le_refl _) hb
  have m2 : Ext w1 w2 := hM4.mono fun k _ ⟨o, h⟩ => by cases h
  have hO2 := hO.ext m2 fun _ _ _ => id
  rw [List.nil_append, Nat.zero_add] at hO2
  rw [List.nil_append] at hO4
  have s1 := m1.size
  rcases hO2.2 with ⟨_, e⟩ | ⟨g, cap, cur, e, hb0, hg, hnc, hcm, hcs, htk⟩
  · omega
  injection e with e _ ec
  subst e; subst ec
  have hB3 : Blk w2 g 33 cur := hg
  refine ⟨g, 0, rfl, by omega, by omega, ?_, hB3.frozen _, ?_⟩
  · rw [hB3.cell, Array.getElem?_eq_getElem (by omega)]; rfl
  · intro w3 e3
    have e3' : w3 = w2.setCell ⟨g, x.toNat, none⟩ (.slice A4 (0 + m) c4) := by rw [e3]; simp
    have hB4 := hB3.set e3'
    have m23 : Mod (fun k => k = g) w2 w3 := (Mod.refl _ _).set (.inr rfl) e3'
    have m3 : Ext w w3 := (m1.trans m2).then m23 (by rintro k hk rfl; omega)
    have hg1 : g < w1.heap.size := (hO.base g 0 rfl).2
    refine .inr ⟨by omega, by omega, by omega, some ⟨g, 0, none⟩, c3, by rw [Nat.zero_add], ⟨vals.set x.toNat (.slice A4 l.length c4), ?_, ?_⟩, m3⟩
    · refine .inr ⟨g, 0, .inr hb0, rfl, ?_⟩
      rw [Nat.mul_one] at htk
      intro j v hj
      rw [hB4.cell, Nat.zero_add]
      rw [← htk, ← List.take_set, List.getElem?_take] at hj
      split at hj
      · rw [Nat.zero_add, ← hl] at *
        rw [← Array.getElem?_toList, Array.toList_setIfInBounds]
        exact hj
      · cases hj
    · have hp := (((v2.lt.ext m1).ext m2).mod m23 fun k hk he => ?_).mono (ψ := fun k => φ k ∨ w.heap.size ≤ k) fun k _ hk => .inl hk.1
      · refine hp.set ?_
        refine RdP.mod (φ := fun k => w1.heap.size ≤ k) ?_ m23 (fun k hk he => by omega) |>.mono fun k _ hk => .inr (by omega)
        exact hO4.rd.mono fun k _ hk => hk.1
      · have := hk.2; omega

theorem cutA_zero (A : Option Addr) (m size : Nat) : cutA A 0 m size = A := by
  unfold cutA
  split
  · rfl
  · cases A with
    | none => rfl
    | some a => simp [Addr.add]

/-- Steps that came in: of each its cells, and its bytes. -/
structure Step1 where
  kind : Int
  n : Int
  bytes : List Int
  epoch : Int
def Steps (w : World) (A : Option Addr) (ss : List Step1) : Prop :=
  ss = [] ∨ ∃ b o, A = some ⟨b, o, none⟩ ∧ ∀ (i : Nat) s, ss[i]? = some s → ∃ B c, w.rangeAt b (o + i * 4) [.int .u8 s.kind, .int .i64 s.n, .slice B s.bytes.length c, .int .u32 s.epoch] ∧ RdS w B (By s.bytes)
theorem Steps.ext {w w' : World} {A : Option Addr} {ss : List Step1} (h : Steps w A ss) (hm : Ext w w') : Steps w' A ss := by
  rcases h with h | ⟨b, o, e, h⟩
  · exact .inl h
  · exact .inr ⟨b, o, e, fun i s hs => let ⟨B, c, h1, h2⟩ := h i s hs; ⟨B, c, range_mod h1 hm id, h2.ext hm⟩⟩
theorem Steps.take {w : World} {A : Option Addr} {ss : List Step1} (h : Steps w A ss) (k : Nat) : Steps w A (ss.take k) := by
  rcases h with rfl | ⟨b, o, e, h⟩
  · exact .inl (by simp)
  · refine .inr ⟨b, o, e, fun i s hs => h i s ?_⟩
    rw [List.getElem?_take] at hs
    split at hs
    · exact hs
    · cases hs

theorem short_ok {w : World} {A : Option Addr} {n c : Nat} {ss : List Step1} (hn : ss.length = n) (hc : n ≤ c) (h : Steps w A ss) :
    Ret Tryz.prog 8 #[.slice A n c] w fun v w' => v = .slice A (ss.take 40).length c ∧ w' = w := by
  have hm : imin ((n : Nat) : Int) 40 = ((ss.take 40).length : Nat) := by
    rw [List.length_take]; unfold imin; split <;> omega
  refine L_8 A n c w _ ⟨by omega, by rw [hm]; omega, by rw [hm, List.length_take]; omega, by omega, ?_⟩
  intro A2 e
  rw [cutA_zero] at e
  subst e
  rw [hm]
  simp

theorem Steps.at {w : World} {A : Option Addr} {ss : List Step1} (h : Steps w A ss) {i : Nat} {s : Step1} (hi : ss[i]? = some s) :
    ∃ b o B c, A = some ⟨b, o, none⟩ ∧ w.rangeAt b (o + i * 4) [.int .u8 s.kind, .int .i64 s.n, .slice B s.bytes.length c, .int .u32 s.epoch] ∧ RdS w B (By s.bytes) := by
  rcases h with rfl | ⟨b, o, e, h⟩
  · simp at hi
  · obtain ⟨B, c, h1, h2⟩ := h i s hi
    exact ⟨b, o, B, c, e, h1, h2⟩

theorem long_ok {w : World} {A : Option Addr} {n c : Nat} {ss : List Step1} (hn : ss.length = n) (hc : n ≤ c) (h : Steps w A ss) :
    Ret Tryz.prog 6 #[.slice A n c] w fun v w' => ∃ q, v = .bool q ∧ (q = false → ∀ s ∈ ss.take 40, s.bytes.length ≤ 300) ∧ Ext w w' := by
  refine L_6 A n c w _ ((short_ok hn hc h).mono ?_)
  rintro v w' ⟨rfl, rfl⟩
  have h40 : (ss.take 40).length ≤ 40 := by rw [List.length_take]; omega
  refine ⟨A, _, c, rfl, fun x w1 => ∃ i : Nat, x = i ∧ i ≤ (ss.take 40).length ∧ (∀ s ∈ (ss.take 40).take i, s.bytes.length ≤ 300) ∧ Ext w' w1, fun x _ => ((ss.take 40).length - x).toNat, ⟨0, rfl, by omega, by simp, Mod.refl _ _⟩, ?_⟩
  rintro x w1 ⟨i, rfl, hi, hall, hm⟩
  refine ⟨fun hlt => ?_, fun hge => ?_⟩
  · have hil : i < (ss.take 40).length := by omega
    obtain ⟨s, hs⟩ : ∃ s, (ss.take 40)[i]? = some s := ⟨_, List.getElem?_eq_getElem hil⟩
    obtain ⟨b, o, B, d, e, hr, hb⟩ := ((h.take 40).ext hm).at hs
    refine ⟨b, o, e, by omega, by omega, _, _, _, _, _, _, by rw [Int.toNat_natCast]; exact hr, ?_⟩
    intro b2 w3 e3 e4
    have hB := Blk.new e3 e4
    have m3 := hm.alloc e4
    refine ⟨hB.there (by decide), ?_⟩
    intro w4 e5
    have hS := Blk.sets [.int .u8 s.kind, .int .i64 s.n, .slice B s.bytes.length d, .int .u32 s.epoch] 0 w3 _ hB (by simp)
    rw [← e5] at hS
    have m4 := m3.sets (.inl (by have := hm.size; omega)) e5
    refine ⟨_, _, _, by rw [hS.cell]; rfl, fun hgt => ⟨true, rfl, fun h => (by cases h), m4⟩, fun hle => ?_⟩
    have hw : IntKind.i64.wrap ((i : Int) + 1) = ((i + 1 : Nat) : Int) := by rw [wrap_i64 (by omega) (by omega)]; omega
    rw [hw]
    refine ⟨⟨i + 1, rfl, by omega, ?_, m4⟩, by simp only; omega⟩
    rw [List.take_succ, hs]
    intro s' hs'
    rcases List.mem_append.1 hs' with hs' | hs'
    · exact hall s' hs'
    · rw [List.mem_singleton.1 hs']; omega
  · have : i = (ss.take 40).length := by omega
    subst this
    rw [List.take_of_length_le (Nat.le_refl _)] at hall
    exact ⟨false, rfl, fun _ => hall, hm⟩

theorem alive_ok (w : World) : Ret Tryz.prog 7 #[] w fun v w' => v = .bool true ∧ Ext w w' := by
  refine L_7 w _ ((new_ok (w := w) (x := 2)).mono ?_)
  rintro v w1 (⟨h, _⟩ | ⟨_, _, bm, bs, rfl, hi, m1, hbs⟩)
  · exact absurd ⟨by omega, by omega⟩ h
  have hps : List.replicate (2 : Int).toNat zpage = [zpage, zpage] := rfl
  rw [hps] at hi
  refine ⟨_, _, rfl, fun h => (by cases h), fun _ => ⟨fun h => absurd rfl h, fun _ => ?_⟩⟩
  intro b1 w2 e1 e2
  have m2 : Ext w1 w2 := (Mod.refl _ _).alloc e2
  have hB : Blk w2 b1 5 ([.int .u8 4] : List Value).toArray := Blk.new e1 e2
  refine (page_ok (l := [4]) (n := 1) rfl (.inr ⟨b1, 0, rfl, hB.range_all⟩)).mono ?_
  rintro v w3 ⟨A, c, rfl, hr, m3⟩
  refine ⟨_, _, _, rfl, (page_set (hi.mod (ψ := fun _ => False) (m2.trans m3)) 1 (pg_length [4]) hr.rd).mono ?_⟩
  rintro v w4 (⟨h, _⟩ | ⟨_, _, _, rfl, hi4, m4⟩)
  · exact absurd ⟨by omega, by decide, rfl⟩ h
  have mw4 : Ext w w4 := (m1.trans (m2.trans m3)).then m4 (by rintro k hk rfl; omega)
  have hps2 : ([zpage, zpage].set (1 : Int).toNat (pg [4])) = [zpage, pg [4]] := rfl
  rw [hps2] at hi4
  refine ⟨_, rfl, fun h => absurd rfl h, fun _ => (kind_ok hi4).mono ?_⟩
  rintro v w5 ⟨rfl, rfl⟩
  refine ⟨_, rfl, fun h => absurd rfl h, fun _ => (all_ok hi4).mono ?_⟩
  rintro v w6 ⟨A6, c6, rfl, ⟨vals, hr6, hp6⟩, m6⟩
  obtain ⟨A0, c0, hv0, hr0⟩ := hp6.2 0 zpage rfl
  obtain ⟨A1, c1, hv1, hr1⟩ := hp6.2 1 (pg [4]) rfl
  obtain ⟨g0, o0, _, eg, hc0⟩ := hr6.at hv0
  obtain ⟨g0', o0', _, eg', hc1⟩ := hr6.at hv1
  rw [eg] at eg'
  injection eg' with eg'; injection eg' with eg1 eg2; subst eg1; subst eg2
  obtain ⟨g2, o2, _, ea, hz⟩ := hr0.at (i := 0) (v := .int .u8 0) rfl
  obtain ⟨g3, o3, _, eb, hf⟩ := hr1.at (i := 0) (v := .int .u8 4) rfl
  refine ⟨A6, 2, c6, 0, rfl, fun _ => ⟨fun _ => ⟨g0, o0, eg, by omega, by omega, A1, (pg [4]).length, c1, hc1, fun _ => ⟨by omega, by omega, A0, zpage.length, c0, hc0, g2, o2, ea, by omega, by rw [zpage_length]; omega, 0, hz, fun _ => ?_, fun h => absurd rfl h⟩, fun h => absurd (by rw [pg_length]; rfl) h⟩, fun h => absurd rfl h⟩, fun h => absurd rfl h⟩
  exact ⟨by omega, by omega, A1, (pg [4]).length, c1, hc1, g3, o3, eb, by omega, by rw [pg_length]; omega, 4, hf, rfl, mw4.trans m6⟩
end Go.Proofs.YtccfdbldmnkgcaaGreat
