/-
  The law on a plain image: it answers true, whatever came in.
-/
import Derived.Test.YtccfdbldmnkgcaaGreatPlain4
import Derived.Test.YtccfdbldmnkgcaaGreatW2
set_option linter.all false
namespace Go.Proofs.YtccfdbldmnkgcaaGreat
open Go Go.RowKit Go.Proofs

theorem eq_ref0 (W : World) : EqRun Tryz.prog W 46 (.agg ref0.toArray) (.agg ref0.toArray) true :=
  ⟨fun X Y => ⟨run_eqGuard_agg W .eql 46 X Y _ _ Tryz.eqGuardType46, run_eqGuard_agg W .neq 46 X Y _ _ Tryz.eqGuardType46⟩, by kernel_rfl, by kernel_rfl⟩

theorem Img.lt {w : World} {bm bs : Nat} {ps : List (List Int)} (h : Img w bm bs ps) : bs < w.heap.size := by
  obtain ⟨bp, c, vals, _, _, h3, _⟩ := h.ex
  exact (h3.base bs 0 rfl).2

theorem both_ok {w : World} {bm bs base : Nat} {ps : List (List Int)} (hi : Img w bm bs ps) {A B : Option Addr} {c m d : Nat} {l : List Int} (x : Int)
    (hr : PgS (fun k => k ≠ bs ∧ base ≤ k) w A ps) (hl : l.length = m) (hB : RdS w B (By l)) (hb : base ≤ w.heap.size) :
    Ret Tryz.prog 10 #[.slice A ps.length c, .int .i64 x, .slice B m d] w fun v w1 => ∃ A' c' e, v = .tuple #[.slice A' ps.length c', .int .i64 e] ∧ Ext w w1 ∧
      Ret Tryz.prog 11 #[.pointer (some ⟨bm, 0, none⟩), .int .i64 x, .slice B m d] w1 fun v w2 => v = .int .i64 e ∧ ∃ ps', ps'.length = ps.length ∧ Img w2 bm bs ps' ∧
        PgS (fun k => k ≠ bs ∧ base ≤ k) w2 A' ps' ∧ Mod (fun k => k = bs) w w2 := by
  refine (refSet_ok (φ := fun k => k ≠ bs ∧ base ≤ k) rfl hl hr hB (by have := hi.few; omega)).mono ?_
  rintro v w1 (⟨h1, rfl, rfl⟩ | ⟨h1, h2, h3, A', c', rfl, hp, m1⟩)
  · refine ⟨A, c, 1, rfl, Mod.refl _ _, (page_set hi x hl hB).mono ?_⟩
    rintro v w2 (⟨_, rfl, rfl⟩ | ⟨g1, g2, g3, _⟩)
    · exact ⟨rfl, ps, rfl, hi, hr, Mod.refl _ _⟩
    · exact absurd ⟨g1, g2, g3⟩ h1
  · refine ⟨A', c', 0, rfl, m1, (page_set (hi.mod (ψ := fun _ => False) m1) x hl (hB.ext m1)).mono ?_⟩
    rintro v w2 (⟨g, _⟩ | ⟨g1, g2, g3, rfl, hi2, m2⟩)
    · exact absurd ⟨h1, h2, h3⟩ g
    · refine ⟨rfl, _, by simp, hi2, ?_, (Mod.of_ext m1).trans m2⟩
      refine (hp.mono (ψ := fun k => k ≠ bs ∧ base ≤ k) fun k _ hk => ?_).mod m2 fun k hk he => hk.1 he
      rcases hk with hk | hk
      · exact hk
      · have := hi.lt
        exact ⟨by omega, by omega⟩

theorem Img.page {w : World} {bm bs : Nat} {ps : List (List Int)} (h : Img w bm bs ps) {i : Nat} {p : List Int} (hp : ps[i]? = some p) : p.length = 256 := h.all p (List.mem_of_getElem? hp)

set_option maxHeartbeats 1000000 in
theorem law_ok {w : World} {x : Int} {A : Option Addr} {n c : Nat} {ss : List Step1} (hn : ss.length = n) (hc : n ≤ c) (hs : Steps w A ss) :
    Ret Tryz.prog 3 #[.int .i64 x, .slice A n c] w fun v w' => v = .bool true ∧ Ext w w' := by
  refine L_3 x A n c w _ ((new_ok (w := w) (x := x)).mono ?_)
  rintro v w1 (⟨hbad, rfl, rfl⟩ | ⟨hx1, hx2, bm, bs, rfl, hi, m1, hbs⟩)
  · refine ⟨none, 1, rfl, (refNew_ok (w := w1) (x := x)).mono ?_⟩
    rintro v w2 (⟨_, rfl, rfl⟩ | ⟨g1, g2, _⟩)
    rotate_left
    · exact absurd ⟨g1, g2⟩ hbad
    refine ⟨none, 0, 0, 1, rfl, fun q w3 => q = true ∧ w3 = w2, ?_, fun h => absurd rfl h, fun _ => ⟨fun _ => ⟨rfl, rfl⟩, fun h => by cases h⟩⟩
    rintro q w3 ⟨rfl, rfl⟩
    refine ⟨fun _ => ⟨fun _ => ⟨fun _ => (alive_ok w3).mono ?_, fun h => by cases h⟩, fun h => absurd rfl h⟩, fun h => by cases h⟩
    rintro v w4 ⟨rfl, m⟩
    exact ⟨true, rfl, rfl, m⟩
  · refine ⟨_, _, rfl, (refNew_ok (w := w1) (x := x)).mono ?_⟩
    rintro v w2 (⟨g, _⟩ | ⟨_, _, A2, c2, rfl, hr2, m2⟩)
    · exact absurd ⟨hx1, hx2⟩ g
    have hi2 := hi.mod (ψ := fun _ => False) m2
    have hbs1 := hi.lt
    have s1 := m1.size
    have hr2' : PgS (fun k => k ≠ bs ∧ w.heap.size ≤ k) w2 A2 (List.replicate x.toNat zpage) := hr2.mono fun k _ hk => ⟨by have := hk.1; omega, by have := hk.1; omega⟩
    have mw2 : Ext w w2 := m1.trans m2
    refine ⟨_, _, _, _, rfl, fun q w3 => Ext w w3 ∧ (q = true ∨ (q = false ∧ (∀ s ∈ ss.take 40, s.bytes.length ≤ 300) ∧ Img w3 bm bs (List.replicate x.toNat zpage) ∧ PgS (fun k => k ≠ bs ∧ w.heap.size ≤ k) w3 A2 (List.replicate x.toNat zpage))), ?_, fun h => absurd rfl h, fun _ => ⟨fun h => absurd rfl h, fun _ => ⟨fun h => (by cases h), fun _ => ⟨fun _ => ⟨mw2, .inl rfl⟩, fun _ => ?_⟩⟩⟩⟩
    rotate_left
    · refine (long_ok hn hc (hs.ext mw2)).mono ?_
      rintro v w3 ⟨q, rfl, hq, m3⟩
      refine ⟨q, rfl, mw2.trans m3, ?_⟩
      cases q
      · exact .inr ⟨rfl, hq rfl, hi2.mod (ψ := fun _ => False) m3, hr2'.ext m3⟩
      · exact .inl rfl
    rintro q w3 ⟨m3, hq⟩
    refine ⟨fun _ => ⟨fun _ => ⟨fun _ => (alive_ok w3).mono ?_, fun h => by cases h⟩, fun h => absurd rfl h⟩, fun hqf => ?_⟩
    · rintro v w4 ⟨rfl, m⟩
      exact ⟨true, rfl, rfl, m3.trans m⟩
    obtain ⟨_, hall, hi3, hr3⟩ : q = false ∧ (∀ s ∈ ss.take 40, s.bytes.length ≤ 300) ∧ Img w3 bm bs (List.replicate x.toNat zpage) ∧ PgS (fun k => k ≠ bs ∧ w.heap.size ≤ k) w3 A2 (List.replicate x.toNat zpage) := by
      rcases hq with h | h
      · rw [hqf] at h; cases h
      · exact h
    refine (short_ok hn hc (hs.ext m3)).mono ?_
    rintro v w5 ⟨rfl, rfl⟩
    have h40 : (ss.take 40).length ≤ 40 := by rw [List.length_take]; omega
    refine ⟨_, _, _, rfl, fun A4 n4 c4 x4 w6 => ∃ (i : Nat) (ps : List (List Int)), x4 = i ∧ i ≤ (ss.take 40).length ∧ Img w6 bm bs ps ∧ PgS (fun k => k ≠ bs ∧ w.heap.size ≤ k) w6 A4 ps ∧ n4 = ps.length ∧ (ps.length : Int) = x ∧ Ext w w6,
      fun _ _ _ x4 _ => ((ss.take 40).length - x4).toNat, ⟨0, _, rfl, by omega, hi3, hr3, by rw [List.length_replicate], by rw [List.length_replicate]; omega, m3⟩, ?_⟩
    rintro A4 n4 c4 x4 w6 ⟨i, ps, rfl, hil, hi6, hr6, rfl, hlen, m6⟩
    refine ⟨fun hlt => ?_, fun hge => ?_⟩
    · obtain ⟨s, hsi⟩ : ∃ s, (ss.take 40)[i]? = some s := ⟨_, List.getElem?_eq_getElem (by omega)⟩
      obtain ⟨b1, o1, B, d, e, hrng, hB⟩ := ((hs.take 40).ext m6).at hsi
      refine ⟨b1, o1, e, by omega, by omega, _, _, _, _, _, _, by rw [Int.toNat_natCast]; exact hrng, ?_⟩
      intro b2 w7 e3 e4
      have hB7 := Blk.new e3 e4
      have m67 : Ext w6 w7 := (Mod.refl _ _).alloc e4
      refine ⟨hB7.there (by decide), ?_⟩
      intro w8 e5
      have hB8 := Blk.sets [.int .u8 s.kind, .int .i64 s.n, .slice B s.bytes.length d, .int .u32 s.epoch] 0 w7 _ hB7 (by simp)
      rw [← e5] at hB8
      have hB8' : Blk w8 b2 36 #[.int .u8 s.kind, .int .i64 s.n, .slice B s.bytes.length d, .int .u32 s.epoch] := hB8
      clear hB8
      have m68 : Ext w6 w8 := m67.sets (.inl (by omega)) e5
      have hbsb : bs < w6.heap.size := hi6.lt
      refine ⟨_, _, _, by rw [hB8'.cell]; rfl, fun A8 n8 c8 w9 => (∃ l', l'.length = n8 ∧ RdS w9 A8 (By l')) ∧ Ext w8 w9, ?_, s.kind, by rw [hB8'.cell]; rfl, fun _ => ?_, fun _ => ⟨⟨_, rfl, hB.ext m68⟩, Mod.refl _ _⟩⟩
      rotate_left
      · refine (page_ok rfl (hB.ext m68)).mono ?_
        rintro v w9 ⟨A', c', rfl, hr, m9⟩
        exact ⟨A', 256, c', rfl, ⟨pg s.bytes, pg_length _, hr.rd⟩, m9⟩
      rintro A8 n8 c8 w9 ⟨⟨l', hl', hr8⟩, m9⟩
      have m69 : Ext w6 w9 := m68.trans m9
      have hB9 := hB8'.ext m9
      refine ⟨s.n, by rw [hB9.cell]; rfl, ?_⟩
      refine (both_ok (base := w.heap.size) (hi6.mod (ψ := fun _ => False) m69) s.n (hr6.ext m69) hl' hr8 (by have := m6.size; have := m69.size; omega)).mono ?_
      rintro v w10 ⟨A9, c9, e9, rfl, m10, hret⟩
      refine ⟨A9, _, c9, e9, rfl, s.n, by rw [(hB9.ext m10).cell]; rfl, hret.mono ?_⟩
      rintro v w11 ⟨rfl, ps', hpl, hi11, hr11, m11⟩
      have mw11 : Ext w w11 := (m6.ext m69).then m11 (by rintro k hk rfl; omega)
      have hB11 := hB9.mod m11 (by intro he; omega)
      refine ⟨_, rfl, fun h => absurd rfl h, fun _ => ⟨s.n, by rw [hB11.cell]; rfl, (page_get hi11 s.n).mono ?_⟩⟩
      intro v w12 hpg
      have hm12 : Ext w11 w12 := by
        rcases hpg with ⟨_, _, rfl⟩ | ⟨_, _, _, _, _, _, _, _, h⟩
        · exact Mod.refl _ _
        · exact h
      obtain ⟨A10, n10, c10, x13, rfl, hcase⟩ : ∃ A10 n10 c10 x13, v = .tuple #[.slice A10 n10 c10, .int .i64 x13] ∧ ((¬ (0 ≤ s.n ∧ s.n < (ps'.length : Nat)) ∧ x13 = 1) ∨ (0 ≤ s.n ∧ s.n < (ps'.length : Nat) ∧ x13 = 0 ∧ ∃ p, ps'[s.n.toNat]? = some p ∧ p.length = n10 ∧ RdS w12 A10 (By p))) := by
        rcases hpg with ⟨h, rfl, _⟩ | ⟨h1, h2, p, A', c', hp, rfl, hr, _⟩
        · exact ⟨_, _, _, _, rfl, .inl ⟨h, rfl⟩⟩
        · exact ⟨_, _, _, _, rfl, .inr ⟨h1, h2, rfl, p, hp, rfl, hr.rd⟩⟩
      clear hpg
      have hB12 := hB11.ext hm12
      refine ⟨_, _, _, _, rfl, fun A12 n12 c12 w13 => A12 = A9 ∧ n12 = ps.length ∧ Ext w11 w13, ?_, fun q w22 => q = decide (0 ≤ s.n ∧ s.n < (ps'.length : Nat)) ∧ w22 = w12, ?_, s.n, by rw [hB12.cell]; rfl, fun hge => ⟨s.n, by rw [hB12.cell]; rfl, ?_, rfl⟩, fun hlt0 => ⟨?_, rfl⟩⟩
      rotate_left
      · rintro q w22 ⟨hq, rfl⟩
        refine ⟨fun hqt => ?_, fun hqf => ?_⟩
        · rw [hqt] at hq
          have hin := of_decide_eq_true hq.symm
          rcases hcase with ⟨h, _⟩ | ⟨_, _, rfl, p, hp, rfl, hr⟩
          · exact absurd hin h
          refine ⟨fun h => absurd rfl h, fun _ => ⟨s.n, by rw [hB12.cell]; rfl, ?_⟩⟩
          obtain ⟨vals, v1, v2⟩ := hr11.ext hm12
          obtain ⟨Ar, cr, hvr, hrr⟩ := v2.2 _ p hp
          obtain ⟨b4, o2, _, e4', hc4⟩ := v1.at hvr
          refine ⟨b4, o2, e4', by omega, by omega, Ar, p.length, cr, by rw [Nat.mul_one]; exact hc4, ?_⟩
          refine (same_ok rfl rfl hr hrr.rd (by have := hi11.page hp; omega)).mono ?_
          rintro v w23 ⟨rfl, m23⟩
          refine ⟨_, rfl, fun h => ?_, fun _ => ⟨fun h => ?_, fun _ => ⟨e4'.symm, rfl, hm12.trans m23⟩⟩⟩
          · simp at h
          · rw [hqt] at h; cases h
        · rw [hqf] at hq
          have hout := of_decide_eq_false hq.symm
          rcases hcase with ⟨_, rfl⟩ | ⟨h1, h2, _⟩
          · exact ⟨fun _ => ⟨fun h => absurd rfl h, fun _ => ⟨rfl, rfl, hm12⟩⟩, fun h => by rw [hqf] at h; cases h⟩
          · exact absurd ⟨h1, h2⟩ hout
      · rw [decide_eq_decide]
        rw [hpl]
        exact ⟨fun h => ⟨hge, h⟩, fun h => h.2⟩
      · rw [eq_comm, decide_eq_false_iff_not]
        omega
      · rintro A12 n12 c12 w13 ⟨rfl, rfl, m13⟩
        have hi13 := hi11.mod (ψ := fun _ => False) m13
        refine ⟨s.epoch, by rw [(hB11.ext m13).cell]; rfl, (plan_ok hi13 _).mono ?_⟩
        rintro v w14 ⟨rfl, m14⟩
        refine ⟨none, 0, 0, 0, 0, List.replicate 32 (.int .u8 0), 0, rfl, by decide, ?_⟩
        intro b3 w15 e6 e7
        have hB15 : Blk w15 b3 46 ref0.toArray := Blk.new e6 e7
        have m15 : Ext w14 w15 := (Mod.refl _ _).alloc e7
        refine ⟨by decide, one_of rfl, hB15.there (by decide), ?_⟩
        intro w16 e8
        have hB16 : Blk w16 b3 46 ref0.toArray := by
          have := Blk.sets ref0 0 w15 ref0 hB15 (by decide)
          rw [show w15.setCells b3 0 ref0 = w16 from e8.symm] at this
          exact this
        have m16 : Ext w14 w16 := m15.sets (.inl (by omega)) e8
        have hi16 := (hi13.mod (ψ := fun _ => False) m14).mod (ψ := fun _ => False) m16
        intro w17 e9
        have m17 : Ext w16 w17 := (Mod.refl _ _).drew e9
        refine (dirty_ok (hi16.mod (ψ := fun _ => False) m17)).mono ?_
        rintro v w18 ⟨rfl, rfl⟩
        refine ⟨none, 0, 0, rfl, Mod.keep m17, fun h => absurd rfl h, fun _ => ⟨0, 0, List.replicate 32 (.int .u8 0), by decide, hB16.range_all, true, eq_ref0, fun h => (by cases h), fun _ => ⟨fun h => absurd rfl h, fun _ => ?_⟩⟩⟩
        refine (done_ok (hi16.mod (ψ := fun _ => False) m17)).mono ?_
        rintro v w19 ⟨rfl, rfl⟩
        refine ⟨0, rfl, Mod.keep m17, fun h => absurd rfl h, fun _ => ⟨0, 0, List.replicate 32 (.int .u8 0), by decide, hB16.range_all, ?_⟩⟩
        refine (root_ok (hi16.mod (ψ := fun _ => False) m17)).mono ?_
        rintro v w20 ⟨rfl, m20⟩
        have m1620 := m17.trans m20
        refine ⟨0, 0, List.replicate 32 (.int .u8 0), rfl, by decide, Mod.keep m1620, true, eq_ref0, fun h => (by cases h), fun _ => ?_⟩
        refine (dead_ok (hi16.mod (ψ := fun _ => False) m1620)).mono ?_
        rintro v w21 ⟨rfl, rfl⟩
        refine ⟨false, rfl, fun h => (by cases h), fun _ => ?_⟩
        have hw : IntKind.i64.wrap ((i : Int) + 1) = ((i + 1 : Nat) : Int) := by rw [wrap_i64 (by omega) (by omega)]; omega
        rw [hw]
        have mx : Ext w11 w21 := ((m13.trans m14).trans m16).trans m1620
        exact ⟨⟨i + 1, ps', rfl, by omega, hi16.mod (ψ := fun _ => False) m1620, hr11.ext mx, hpl.symm, by rw [hpl]; exact hlen, mw11.trans mx⟩, by simp only; omega⟩
    · refine (all_ok hi6).mono ?_
      rintro v w25 ⟨A17, c17, rfl, hp17, m25⟩
      refine ⟨_, _, _, _, rfl, fun _ => ?_, fun h => absurd rfl h⟩
      refine (like_ok rfl rfl hp17 (hr6.ext m25) (by have := hi6.few; omega) (fun p hp => by rw [hi6.all p hp]; omega)).mono ?_
      rintro v w26 ⟨rfl, m26⟩
      refine ⟨_, rfl, fun _ => ?_, fun h => by simp at h⟩
      refine (pages_ok (hi6.mod (ψ := fun _ => False) (m25.trans m26))).mono ?_
      rintro v w27 ⟨rfl, rfl⟩
      refine ⟨_, rfl, fun _ => (alive_ok w27).mono ?_, fun h => absurd hlen h⟩
      rintro v w28 ⟨rfl, m28⟩
      exact ⟨true, rfl, rfl, m6.trans ((m25.trans m26).trans m28)⟩
end Go.Proofs.YtccfdbldmnkgcaaGreat
