/-
  A plain image: what its functions do.
-/
import Derived.Test.YtccfdbldmnkgcaaGreatMem
import Derived.Test.YtccfdbldmnkgcaaGreatW1
set_option linter.all false
namespace Go.Proofs.YtccfdbldmnkgcaaGreat
open Go Go.RowKit Go.Proofs

abbrev Fresh (w w' : World) : Nat → Prop := fun k => w.heap.size ≤ k ∧ k < w'.heap.size

theorem rds_none {w : World} {xs : List Value} (h : RdS w none xs) : xs = [] := by
  rcases h with h | ⟨_, _, h, _⟩
  · exact h
  · cases h
theorem RdS.ext {w w' : World} {A : Option Addr} {xs : List Value} (h : RdS w A xs) (hm : Ext w w') : RdS w' A xs := by
  rcases h with rfl | ⟨b, o, e, hr⟩
  · exact .inl rfl
  · exact .inr ⟨b, o, e, range_mod hr hm id⟩

/-- bytes.Clone: the same bytes, in new memory. -/
theorem clone_ok {w : World} {A : Option Addr} {n c : Nat} {xs : List Value} (hl : xs.length = n) (hr : RdS w A xs) (h1 : One xs) (hn : n ≤ 1099511627776) :
    Ret Tryz.prog 51 #[.slice A n c] w fun v w' => ∃ A' c', v = .slice A' n c' ∧ RdP (Fresh w w') w' A' xs ∧ Ext w w' := by
  refine L_51 A n c w _ ⟨?_, ?_⟩
  · rintro rfl
    have := rds_none hr
    subst this
    simp only [List.length_nil] at hl
    subst hl
    exact ⟨none, 0, rfl, .inl rfl, Mod.refl _ _⟩
  · intro _ b1 w1 e1 e2
    have hm1 : Ext w w1 := (Mod.refl _ _).alloc e2
    have hB : Blk w1 b1 5 ([] : List Value).toArray := Blk.new e1 e2
    have hown : Own w1 w.heap.size 5 1 (some ⟨b1, 0, none⟩) 0 0 [] := Own.new rfl (Nat.zero_le _) (by omega) hB
    refine ⟨[], xs, by omega, rfl, .inl rfl, by omega, hr.ext hm1, h1, fun h => hown.room h, ?_⟩
    intro A2 c2 w2 ha
    obtain ⟨h2, h3, _⟩ := hown.app rfl (by omega) (by have := hm1.size; omega) ha
    refine ⟨A2, c2, by rw [Nat.zero_add], ?_, hm1.then h3 (by rintro n hn ⟨o, ho⟩; have := (hown.base n o ho).1; omega)⟩
    simpa using h2.rd

/-! ### lists of pages -/
def PgsL (φ : Nat → Prop) (w : World) (vals : List Value) (ps : List (List Int)) : Prop :=
  vals.length = ps.length ∧ ∀ (i : Nat) p, ps[i]? = some p → ∃ A c, vals[i]? = some (.slice A p.length c) ∧ RdP φ w A (By p)

section
variable {φ ψ : Nat → Prop} {w w' : World} {vals : List Value} {ps : List (List Int)}
theorem PgsL.nil (φ : Nat → Prop) (w : World) : PgsL φ w [] [] := ⟨rfl, fun i p h => by simp at h⟩
theorem PgsL.mod (h : PgsL φ w vals ps) (hm : Mod ψ w w') (hn : ∀ k, φ k → ¬ ψ k) : PgsL φ w' vals ps :=
  ⟨h.1, fun i p hp => let ⟨A, c, h1, h2⟩ := h.2 i p hp; ⟨A, c, h1, h2.mod hm hn⟩⟩
theorem PgsL.ext (h : PgsL φ w vals ps) (hm : Ext w w') : PgsL φ w' vals ps := h.mod hm fun _ _ h => h
theorem PgsL.mono (h : PgsL φ w vals ps) (hp : ∀ k, k < w.heap.size → φ k → ψ k) : PgsL ψ w vals ps :=
  ⟨h.1, fun i p hi => let ⟨A, c, h1, h2⟩ := h.2 i p hi; ⟨A, c, h1, h2.mono hp⟩⟩
theorem PgsL.lt (h : PgsL φ w vals ps) : PgsL (fun k => φ k ∧ k < w.heap.size) w vals ps := h.mono fun _ a b => ⟨b, a⟩
theorem PgsL.snoc (h : PgsL φ w vals ps) {A : Option Addr} {c : Nat} {p : List Int} (hr : RdP φ w A (By p)) : PgsL φ w (vals ++ [.slice A p.length c]) (ps ++ [p]) := by
  refine ⟨by simp [h.1], fun i q hi => ?_⟩
  rw [List.getElem?_append] at hi
  split at hi
  · rename_i hlt
    obtain ⟨A', c', h1, h2⟩ := h.2 i q hi
    exact ⟨A', c', by rw [List.getElem?_append, if_pos (by rw [h.1]; exact hlt)]; exact h1, h2⟩
  · rename_i hge
    have : i = ps.length := by
      rcases Nat.lt_or_ge (i - ps.length) 1 with h0 | h0
      · omega
      · rw [List.getElem?_eq_none (by simpa using h0)] at hi; cases hi
    subst this
    simp only [Nat.sub_self, List.getElem?_cons_zero, Option.some.injEq] at hi
    subst hi
    exact ⟨A, c, by rw [List.getElem?_append, if_neg (by rw [h.1]; omega), h.1]; simp, hr⟩
theorem PgsL.set (h : PgsL φ w vals ps) {A : Option Addr} {c n : Nat} {p : List Int} (hr : RdP φ w A (By p)) : PgsL φ w (vals.set n (.slice A p.length c)) (ps.set n p) := by
  refine ⟨by simp [h.1], fun i q hi => ?_⟩
  rw [List.getElem?_set] at hi
  split at hi
  · rename_i he; subst he
    split at hi
    · rename_i hlt
      injection hi with hi; subst hi
      exact ⟨A, c, by rw [List.getElem?_set, if_pos rfl, if_pos (by rw [h.1]; exact hlt)], hr⟩
    · cases hi
  · rename_i hne
    obtain ⟨A', c', h1, h2⟩ := h.2 i q hi
    exact ⟨A', c', by rw [List.getElem?_set, if_neg hne]; exact h1, h2⟩
end

/-- A page that begins with some bytes. -/
def pg (l : List Int) : List Int := l.take 256 ++ List.replicate (256 - (l.take 256).length) 0
theorem pg_length (l : List Int) : (pg l).length = 256 := by simp [pg]; omega
def zpage : List Int := List.replicate 256 0
theorem zpage_length : zpage.length = 256 := List.length_replicate ..
theorem By_zpage : By zpage = List.replicate (256 * 1) (Value.int .u8 0) := List.map_replicate ..

theorem One.take {xs : List Value} (h : One xs) (k : Nat) : One (xs.take k) := fun v hv => h v (List.mem_of_mem_take hv)
theorem RdS.take {w : World} {A : Option Addr} {xs : List Value} (h : RdS w A xs) (k : Nat) : RdS w A (xs.take k) := by
  have : RdP (fun _ => True) w A xs := h.imp id fun ⟨b, o, h⟩ => ⟨b, o, trivial, h⟩
  exact (this.take k).rd

theorem page_ok {w : World} {A : Option Addr} {n c : Nat} {l : List Int} (hl : l.length = n) (hr : RdS w A (By l)) :
    Ret Tryz.prog 9 #[.slice A n c] w fun v w' => ∃ A' c', v = .slice A' 256 c' ∧ RdP (Fresh w w') w' A' (By (pg l)) ∧ Ext w w' := by
  refine L_9 A n c w _ ⟨by omega, by omega, by omega, ?_⟩
  intro b1 w1 e1 e2
  have hm1 : Ext w w1 := (Mod.refl _ _).alloc e2
  rw [madeCells_eq] at e2
  have hB : Blk w1 b1 5 (List.replicate (256 * 1) (Value.int .u8 0)).toArray := Blk.new e1 e2
  have hlen : ((By l).take 256).length = Nat.min n 256 * 1 := by
    rw [List.length_take, By_length, hl, Nat.mul_one, Nat.min_comm]
  refine ⟨(By l).take 256, hlen, (hr.take _).ext hm1, (One_By l).take _, .inr ⟨b1, 0, rfl, hB.there (by rw [List.size_toArray, List.length_replicate, hlen]; have := Nat.min_le_right n 256; simp only [Nat.min_def] at *; omega)⟩, ?_⟩
  intro w2 e3
  have hm2 : Ext w w2 := by
    have e3' : w2 = w1.setCells b1 0 ((By l).take 256) := by rw [e3]; simp [puts]
    exact hm1.sets (.inl (by omega)) e3'
  have hS := Blk.sets ((By l).take 256) 0 w1 _ hB (by rw [List.length_replicate, hlen]; simp only [Nat.min_def]; split <;> omega)
  have e3' : w2 = w1.setCells b1 0 ((By l).take 256) := by rw [e3]; simp [puts]
  rw [← e3'] at hS
  refine ⟨_, _, rfl, .inr ⟨b1, 0, ⟨by omega, hS.lt⟩, rfl, ?_⟩, hm2⟩
  have := hS.range_all
  simp only [List.take_zero, List.nil_append, Nat.zero_add] at this
  have heq : By (pg l) = (By l).take 256 ++ List.drop ((By l).take 256).length (List.replicate (256 * 1) (Value.int .u8 0)) := by
    rw [List.drop_replicate, pg, By_append, By_take, By_length]
    simp only [By, List.map_replicate, Nat.mul_one]
  rw [heq]; exact this

/-! ### the image -/
/-- Block 'bm' is a plain image whose pages' slice lies in block 'bs'. -/
structure Img (w : World) (bm bs : Nat) (ps : List (List Int)) : Prop where
  ex : ∃ bp c vals, Blk w bm 65 #[.int .i64 3, .iface 58 (.pointer (some ⟨bp, 0, none⟩)), .pointer none] ∧
    Blk w bp 60 #[.slice (some ⟨bs, 0, none⟩) ps.length c] ∧ Own w 0 33 1 (some ⟨bs, 0, none⟩) ps.length c vals ∧ PgsL (fun k => k ≠ bs) w vals ps ∧ bm ≠ bs ∧ bp ≠ bs
  all : ∀ p ∈ ps, p.length = 256
  ne : 0 < ps.length
  few : ps.length ≤ 216

theorem Img.mod {ψ : Nat → Prop} {w w' : World} {bm bs : Nat} {ps : List (List Int)} (h : Img w bm bs ps) (hm : Ext w w') : Img w' bm bs ps := by
  obtain ⟨⟨bp, c, vals, h1, h2, h3, h4, h5, h6⟩, ha, hs, hf⟩ := h
  exact ⟨⟨bp, c, vals, h1.ext hm, h2.ext hm, h3.ext hm fun _ _ _ => id, h4.ext hm, h5, h6⟩, ha, hs, hf⟩

theorem replicate_snoc {α : Type} (k : Nat) (x : α) : List.replicate (k + 1) x = List.replicate k x ++ [x] := List.replicate_succ'

theorem new_ok {w : World} {x : Int} : Ret Tryz.prog 4 #[.int .i64 x] w fun v w' =>
    (¬ (1 ≤ x ∧ x ≤ 216) ∧ v = .tuple #[.pointer none, .int .i64 1] ∧ w' = w) ∨
    (1 ≤ x ∧ x ≤ 216 ∧ ∃ bm bs, v = .tuple #[.pointer (some ⟨bm, 0, none⟩), .int .i64 0] ∧ Img w' bm bs (List.replicate x.toNat zpage) ∧ Ext w w' ∧ w.heap.size ≤ bs) := by
  refine L_4 x w _ ⟨fun h => .inl ⟨by omega, rfl, rfl⟩, fun h0 => ⟨fun h => .inl ⟨by omega, rfl, rfl⟩, fun h1 => ?_⟩⟩
  intro b1 w1 e1 e2
  have hm1 : Ext w w1 := (Mod.refl _ _).alloc e2
  have hB1 : Blk w1 b1 60 #[.slice none 0 0] := Blk.new e1 e2
  refine ⟨fun x2 w2 => ∃ k : Nat, x2 = k ∧ (k : Int) ≤ x ∧ ∃ A c vals, Blk w2 b1 60 #[.slice A k c] ∧ Own w2 (b1 + 1) 33 1 A k c vals ∧
    PgsL (fun n => n ≠ b1 ∧ ∀ o, A ≠ some ⟨n, o, none⟩) w2 vals (List.replicate k zpage) ∧ Ext w w2 ∧ (0 < k → A ≠ none), fun x2 _ => (x - x2).toNat, ?_, ?_⟩
  · exact ⟨0, rfl, by omega, none, 0, [], hB1, own_nil _ _ _ _, PgsL.nil _ _, hm1, fun h => absurd h (by omega)⟩
  · rintro x2 w2 ⟨k, rfl, hk, A, c, vals, hB, hown, hpg, hm2, hnn⟩
    refine ⟨fun hlt => ?_, fun hge => ?_⟩
    · intro w3 e3
      refine ⟨A, k, c, by rw [hB.cell]; rfl, by omega, by omega, by omega, ?_⟩
      intro b2 w4 e4 e5
      have m3 : Ext w2 w3 := (Mod.refl _ _).drew e3
      have m4 : Ext w2 w4 := m3.alloc e5
      have s3 := m3.size
      have s4 := m4.size
      rw [madeCells_eq] at e5
      have hB2 : Blk w4 b2 5 (List.replicate (256 * 1) (Value.int .u8 0)).toArray := Blk.new e4 e5
      refine ⟨Mod.keep m4, ?_⟩
      intro b3 w5 e6 e7
      have m5 : Ext w4 w5 := (Mod.refl _ _).alloc e7
      have hB3 : Blk w5 b3 33 ([.slice (some ⟨b2, 0, none⟩) 256 256] : List Value).toArray := Blk.new e6 e7
      have m25 : Ext w2 w5 := m4.trans m5
      refine ⟨Mod.keep m25, vals, [.slice (some ⟨b2, 0, none⟩) 256 256], by omega, by have := hown.len; omega, ?_, rfl, .inr ⟨b3, 0, rfl, hB3.range_all⟩, one_of rfl, ?_, ?_⟩
      · exact (hown.rd.ext m25).rd
      · intro h; exact (hown.ext m25 fun _ _ _ => id).room h
      · intro A2 c2 w6 ha
        have hown5 : Own w5 (b1 + 1) 33 1 A k c vals := hown.ext m25 fun _ _ _ => id
        have hb1 : b1 < w2.heap.size := hB.lt
        obtain ⟨hO, hM, hA⟩ := hown5.app (m := 1) rfl rfl (by have := m25.size; omega) ha
        have hne : ∀ o, A ≠ some ⟨b1, o, none⟩ := fun o ho => by have := (hown.base b1 o ho).1; omega
        have s5 := m25.size
        have hB6 : Blk w6 b1 60 #[.slice A k c] := (hB.ext m25).mod hM (by rintro ⟨o, ho⟩; exact hne o ho)
        have m6 : Ext w w6 := (hm2.ext m25).then hM (by rintro n hn ⟨o, ho⟩; have := (hown.base n o ho).1; omega)
        refine ⟨by rw [hB6.cell]; rfl, hB6.frozen _, ?_⟩
        intro w7 e8
        have hB7 : Blk w7 b1 60 #[.slice A2 (k + 1) c2] := hB6.set e8
        have m67 : Mod (fun n => n = b1) w6 w7 := (Mod.refl _ _).set (.inr rfl) e8
        have hb2 : b2 < w5.heap.size := by have := hB2.lt; have := m5.size; omega
        have hO7 := hO.ext m67 fun b o he => by have := (hO.base b o he).1; omega
        have hp6 : PgsL (fun n => n ≠ b1 ∧ ∀ o, A2 ≠ some ⟨n, o, none⟩) w6 vals (List.replicate k zpage) := by
          refine ((hpg.ext m25).lt.mod hM fun n hn ⟨o, ho⟩ => hn.1.2 o ho).mono fun n _ hn => ⟨hn.1.1, fun o ho => ?_⟩
          rcases hA n o ho with h | h
          · exact hn.1.2 o h
          · omega
        have hne2 : ∀ o, A2 ≠ some ⟨b2, o, none⟩ := fun o ho => by
          rcases hA b2 o ho with h | h
          · have := (hown.base b2 o h).2; omega
          · omega
        have hr2 : RdP (fun n => n ≠ b1 ∧ ∀ o, A2 ≠ some ⟨n, o, none⟩) w6 (some ⟨b2, 0, none⟩) (By zpage) := by
          refine .inr ⟨b2, 0, ⟨by omega, hne2⟩, rfl, ?_⟩
          have hB26 := (hB2.ext m5).mod hM (by rintro ⟨o, ho⟩; have := (hown.base b2 o ho).2; omega)
          have := hB26.range_all
          rw [By_zpage]; exact this
        have hp7 := (hp6.snoc (c := 256) hr2).mod m67 fun n hn he => hn.1 he
        rw [zpage_length, ← replicate_snoc] at hp7
        have hw : IntKind.i64.wrap ((k : Int) + 1) = ((k + 1 : Nat) : Int) := by rw [wrap_i64 (by omega) (by omega)]; omega
        rw [hw]
        refine ⟨⟨k + 1, rfl, by omega, A2, c2, _, hB7, hO7, hp7, m6.then m67 (by rintro n hn rfl; omega), fun _ he => ?_⟩, by simp only; omega⟩
        subst he
        have h0 := hO.len
        rcases hO.rd with h | ⟨b, o, _, h, _⟩
        · simp at h
        · cases h
    · intro b4 w8 e3 e4
      have hk' : (k : Int) = x := by omega
      have hx : x.toNat = k := by omega
      have m8 : Ext w2 w8 := (Mod.refl _ _).alloc e4
      have hB8 : Blk w8 b4 65 #[.int .i64 3, .iface 58 (.pointer (some ⟨b1, 0, none⟩)), .pointer none] := Blk.new e3 e4
      have h1k : 0 < k := by omega
      obtain ⟨bs, hA⟩ : ∃ bs, A = some ⟨bs, 0, none⟩ := by
        rcases hown.2 with ⟨e, _⟩ | ⟨g, cap, cur, e, _⟩
        · injection e with e; exact absurd e (hnn h1k)
        · injection e with e; exact ⟨g, e⟩
      subst hA
      have hbs := hown.base bs 0 rfl
      refine .inr ⟨by omega, by omega, b4, bs, rfl, ⟨⟨b1, c, vals, hB8, ?_, ?_, ?_, by omega, by omega⟩, ?_, ?_, ?_⟩, hm2.ext m8, by omega⟩
      · rw [hx, List.length_replicate]; exact hB.ext m8
      · rw [hx, List.length_replicate]
        have := hown.ext m8 fun _ _ _ => id
        exact ⟨this.1, this.2.imp id fun ⟨g, cap, cur, e, _, rest⟩ => ⟨g, cap, cur, e, Nat.zero_le _, rest⟩⟩
      · rw [hx]; exact (hpg.ext m8).mono fun n _ hn he => hn.2 0 (by rw [he])
      · intro p hp; rw [List.eq_of_mem_replicate hp]; exact zpage_length
      · rw [hx, List.length_replicate]; exact h1k
      · rw [hx, List.length_replicate]; omega
end Go.Proofs.YtccfdbldmnkgcaaGreat
