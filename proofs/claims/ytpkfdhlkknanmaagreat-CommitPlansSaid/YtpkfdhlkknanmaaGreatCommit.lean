/-
 Commits: changes' pages, nodes, what is needed.
-/
import Derived.Test.YtpkfdhlkknanmaaGreatPair
set_option linter.all false
namespace Go.Proofs.YtpkfdhlkknanmaaGreat
open Go Go.RowKit Go.Proofs
def fnd (l : List (Int × List Rf)) (i : Int) : Option (List Rf) := (l.find? (fun x => x.1 == i)).map (·.2)
def pgs (cs : List (Int × List Int)) : List Int := cs.map (·.1)
def NdOk (l : List (Int × List Rf)) : Prop := ∀ x ∈ l, RsOk x.2 ∧ x.2.length ≤ 1000
theorem fnd_ok {l : List (Int × List Rf)} (h : NdOk l) {i : Int} {rs : List Rf} (hf : fnd l i = some rs) : RsOk rs ∧ rs.length ≤ 1000 := by
 unfold fnd at hf
 rw [Option.map_eq_some_iff] at hf
 obtain ⟨x, hx, rfl⟩ := hf
 exact h x (List.mem_of_find?_eq_some hx)
theorem fnd_at {l : List (Int × List Rf)} {i : Int} {j : Nat} {x : Int × List Rf} (hj : l[j]? = some x) (hx : x.1 = i) (hno : ∀ k y, k < j → l[k]? = some y → y.1 ≠ i) : fnd l i = some x.2 := by
 unfold fnd
 have : l.find? (fun x => x.1 == i) = some x := by
  rw [List.find?_eq_some_iff_getElem]
  obtain ⟨hl, hj⟩ := List.getElem?_eq_some_iff.1 hj
  exact ⟨by simp [hx], j, hl, hj, fun k hk => by simpa using hno k _ hk (List.getElem?_eq_getElem (by omega))⟩
 rw [this]; rfl
theorem fnd_none {l : List (Int × List Rf)} {i : Int} (hno : ∀ k y, k < l.length → l[k]? = some y → y.1 ≠ i) : fnd l i = none := by
 unfold fnd
 have : l.find? (fun x => x.1 == i) = none := by
  rw [List.find?_eq_none]
  intro x hx
  obtain ⟨k, hk, rfl⟩ := List.mem_iff_getElem.1 hx
  simpa using hno k _ hk (List.getElem?_eq_getElem hk)
 rw [this]; rfl
section
variable {α : Type} {enc : List α → List Value} {w : World} {A : Option Addr} {n c : Nat} {l : List (Int × List α)}
theorem take_map_snoc {i : Nat} {x : Int × List α} (h : l[i]? = some x) : (l.take (i + 1)).map (·.1) = (l.take i).map (·.1) ++ [x.1] := by rw [List.take_succ, h]; simp
set_option maxHeartbeats 2000000 in
theorem cpages_ok (h : PrS enc w A l) (hl : l.length = n) (few : n ≤ 100000) : Ret Tryz.prog 18 #[.slice A n c] w fun v w' =>
  ∃ A' c', v = .slice A' n c' ∧ OX 3 .i64 w' w.heap.size A' c' (l.map (·.1)) ∧ Ext w w' := by
 subst hl
 refine L_18 A l.length c w _ ?_
 refine ⟨fun A2 n2 c2 x w1 => ∃ i : Nat, x = i ∧ i ≤ l.length ∧ n2 = i ∧ OX 3 .i64 w1 w.heap.size A2 c2 ((l.take i).map (·.1)) ∧ Ext w w1, fun _ _ _ x _ => l.length - x.toNat, ⟨0, rfl, by omega, rfl, OX.nil _ _ _ _, Mod.refl _ _⟩, ?_⟩
 rintro A2 n2 c2 x w1 ⟨i, rfl, hi, rfl, o1, m1⟩
 refine ⟨fun hlt => ?_, fun hge => ?_⟩
 ·obtain ⟨x, hx⟩ : ∃ x, l[n2]? = some x := ⟨_, List.getElem?_eq_getElem (by omega)⟩
  obtain ⟨b, o, A', c', hA, hr, _⟩ := (h.ext m1).at hx
  refine ⟨b, o, hA, by omega, by omega, x.1, A', _, c', hr, fun b2 w2 e1 e2 => ?_⟩
  have hB : Blk w2 b2 68 ([.int .i64 0, .slice none 0 0] : List Value).toArray := Blk.new e1 e2
  have m2 : Ext w1 w2 := (Mod.refl _ _).alloc e2
  refine ⟨hB.there (by simp), fun w3 e3 => ?_⟩
  have hB3 := Blk.sets _ _ w2 _ hB (by simp : 0 + ([.int .i64 x.1, .slice A' x.2.length c'] : List Value).length ≤ _)
  rw [← e3] at hB3
  have m3 : Ext w1 w3 := m2.sets (.inl (by rw [e1]; exact Nat.le_refl _)) e3
  refine ⟨x.1, by rw [hB3.cell]; rfl, fun b3 w4 e4 e5 => ?_⟩
  have q : IntKind.i64.wrap ((n2 : Int) + 1) = ((n2 + 1 : Nat) : Int) := wrap_i64 (by omega) (by omega)
  rw [q]
  have s3 := m3.size
  refine (o1.ext m3).pushX (by have := m1.size; omega) (by simp; omega) e4 e5 (by omega) (by decide) fun A4 c4 w5 o5 m5 _ => ⟨⟨n2 + 1, rfl, by omega, rfl, by rw [take_map_snoc hx]; exact o5, ?_⟩, by dsimp only; omega⟩
  exact Fro.ext (((Mod.of_ext (m1.trans m3))).trans (m5.mono fun j hj ⟨o, e⟩ => (Own.base o1 j o e).1))
 ·obtain rfl : n2 = l.length := by omega
  rw [List.take_length] at o1
  exact ⟨A2, c2, rfl, o1, m1⟩
set_option maxHeartbeats 2000000 in
theorem refpages_ok (h : PrS enc w A l) (hl : l.length = n) (few : n ≤ 100000) : Ret Tryz.prog 26 #[.slice A n c] w fun v w' =>
  ∃ A' c', v = .slice A' n c' ∧ OX 3 .i64 w' w.heap.size A' c' (l.map (·.1)) ∧ Ext w w' := by
 subst hl
 refine L_26 A l.length c w _ ?_
 refine ⟨fun A2 n2 c2 x w1 => ∃ i : Nat, x = i ∧ i ≤ l.length ∧ n2 = i ∧ OX 3 .i64 w1 w.heap.size A2 c2 ((l.take i).map (·.1)) ∧ Ext w w1, fun _ _ _ x _ => l.length - x.toNat, ⟨0, rfl, by omega, rfl, OX.nil _ _ _ _, Mod.refl _ _⟩, ?_⟩
 rintro A2 n2 c2 x w1 ⟨i, rfl, hi, rfl, o1, m1⟩
 refine ⟨fun hlt => ?_, fun hge => ?_⟩
 ·obtain ⟨x, hx⟩ : ∃ x, l[n2]? = some x := ⟨_, List.getElem?_eq_getElem (by omega)⟩
  obtain ⟨b, o, A', c', hA, hr, _⟩ := (h.ext m1).at hx
  refine ⟨b, o, hA, by omega, by omega, x.1, hr 0 _ rfl, fun b3 w4 e4 e5 => ?_⟩
  have q : IntKind.i64.wrap ((n2 : Int) + 1) = ((n2 + 1 : Nat) : Int) := wrap_i64 (by omega) (by omega)
  rw [q]
  refine o1.pushX (by have := m1.size; omega) (by simp; omega) e4 e5 (by omega) (by decide) fun A4 c4 w5 o5 m5 _ => ⟨⟨n2 + 1, rfl, by omega, rfl, by rw [take_map_snoc hx]; exact o5, ?_⟩, by dsimp only; omega⟩
  exact Fro.ext ((Mod.of_ext m1).trans (m5.mono fun j hj ⟨o, e⟩ => (Own.base o1 j o e).1))
 ·obtain rfl : n2 = l.length := by omega
  rw [List.take_length] at o1
  exact ⟨A2, c2, rfl, o1, m1⟩
end
section
variable {w : World}
theorem place_eq (p : Int) : (p == 1) = decide (p = 1) := by by_cases h : p = 1 <;> simp [h]
theorem cplace_ok (r : Rf) (hr : r.Ok) : Ret Tryz.prog 17 #[.agg r.cells.toArray] w fun v w' => v = .bool (decide (r.p = 0 ∨ r.p = 1)) ∧ Ext w w' := by
 show Ret _ _ #[.agg (([.int .i64 r.p, .int .u32 r.e] : List Value) ++ By r.d).toArray] w _
 refine L_17 r.p r.e (By r.d) w _ (by simp [hr.len]) ?_
 intro b1 w1 e1 e2
 have hB : Blk w1 b1 46 (([.int .i64 r.p, .int .u32 r.e] : List Value) ++ By r.d).toArray := Blk.new e1 e2
 have m1 : Ext w w1 := (Mod.refl _ _).alloc e2
 refine ⟨r.p, by rw [hB.cell]; simp, fun h => ⟨by simp [h], m1⟩, fun h => ⟨r.p, by rw [hB.cell]; simp, ?_, m1⟩⟩
 rw [place_eq]; congr 1; simp [h]
theorem refright_ok (r : Rf) (hr : r.Ok) : Ret Tryz.prog 24 #[.agg r.cells.toArray] w fun v w' => v = .bool (decide (r.p = 0 ∨ r.p = 1)) ∧ Ext w w' := by
 show Ret _ _ #[.agg (([.int .i64 r.p, .int .u32 r.e] : List Value) ++ By r.d).toArray] w _
 refine L_24 r.p r.e (By r.d) w _ (by simp [hr.len]) ?_
 intro b1 w1 e1 e2
 have hB : Blk w1 b1 25 (([.int .i64 r.p, .int .u32 r.e] : List Value) ++ By r.d).toArray := Blk.new e1 e2
 have m1 : Ext w w1 := (Mod.refl _ _).alloc e2
 refine ⟨r.p, by rw [hB.cell]; simp, fun h => ⟨by simp [h], m1⟩, fun h => ⟨r.p, by rw [hB.cell]; simp, ?_, m1⟩⟩
 rw [place_eq]; congr 1; simp [h]
theorem may1_ok (r : Rf) (hr : r.Ok) : Ret Tryz.prog 39 #[.agg r.cells.toArray] w fun v w' => v = .bool (!decide (r.p = 0 ∨ r.p = 1)) ∧ Ext w w' := by
 show Ret _ _ #[.agg (([.int .i64 r.p, .int .u32 r.e] : List Value) ++ By r.d).toArray] w _
 refine L_39 r.p r.e (By r.d) w _ (by simp [hr.len]) ?_
 intro b1 w1 e1 e2
 have hB : Blk w1 b1 46 (([.int .i64 r.p, .int .u32 r.e] : List Value) ++ By r.d).toArray := Blk.new e1 e2
 have m1 : Ext w w1 := (Mod.refl _ _).alloc e2
 refine ⟨r.p, r.e, By r.d, by simp [hr.len], hB.range_all, (cplace_ok r hr).mono ?_⟩
 rintro v w2 ⟨rfl, m2⟩
 exact ⟨_, rfl, rfl, m1.trans m2⟩
def bads (rs : List Rf) : Bool := rs.any fun r => !decide (r.p = 0 ∨ r.p = 1)
theorem bads_iff {rs : List Rf} : bads rs = false ↔ ∀ r ∈ rs, PlOk r := by
 simp only [bads, List.any_eq_false, Bool.not_eq_true, Bool.not_eq_false', decide_eq_true_eq]; rfl
theorem contains_ok {A : Option Addr} {n c : Nat} {rs : List Rf} (hl : rs.length = n) (hr : RdS w A (Rc rs)) (hok : RsOk rs) (few : n ≤ 100000) :
  Ret Tryz.prog 41 #[.slice A n c, .func (.func 39) #[] #[]] w fun v w' => v = .bool (bads rs) ∧ Ext w w' := by
 subst hl
 refine L_41 A rs.length c _ w _ ?_
 refine (L_58 A rs.length c _ w (fun v w' => ∃ x : Int, v = .int .i64 x ∧ decide (x ≥ 0) = bads rs ∧ Ext w w') ?_).mono ?_
 ·refine ⟨fun x w1 => ∃ i : Nat, x = i ∧ i ≤ rs.length ∧ (∀ r ∈ rs.take i, PlOk r) ∧ Ext w w1, fun x _ => rs.length - x.toNat, ⟨0, rfl, by omega, by simp, Mod.refl _ _⟩, ?_⟩
  rintro x w1 ⟨i, rfl, hi, hp, m1⟩
  refine ⟨fun hlt => ?_, fun hge => ?_⟩
  ·obtain ⟨b, o, hA, hrow⟩ := (hr.ext m1).refs hok (by omega)
   obtain ⟨r, hri⟩ : ∃ r, rs[i]? = some r := ⟨_, List.getElem?_eq_getElem (by omega)⟩
   have hrok := hok r (List.mem_of_getElem? hri)
   refine ⟨b, o, hA, by omega, by omega, r.p, r.e, By r.d, by simp [hrok.len], hrow i r hri, 39, #[], ⟨rfl, enters_of Tryz.func39 (by kernel_rfl) rfl⟩, (may1_ok r hrok).mono ?_⟩
   rintro v w2 ⟨rfl, m2⟩
   have q : IntKind.i64.wrap ((i : Int) + 1) = ((i + 1 : Nat) : Int) := wrap_i64 (by omega) (by omega)
   rw [q]
   refine ⟨_, rfl, fun hb => ⟨_, rfl, ?_, m1.trans m2⟩, fun hb => ⟨⟨i + 1, rfl, by omega, fun r' hr' => ?_, m1.trans m2⟩, by dsimp only; omega⟩⟩
   ·have : bads rs = true := by
     unfold bads
     rw [List.any_eq_true]
     exact ⟨r, List.mem_of_getElem? hri, hb⟩
    rw [this]; simp
   ·rw [List.take_succ, hri] at hr'
    simp only [Option.toList_some, List.mem_append, List.mem_singleton] at hr'
    rcases hr' with h | rfl
    ·exact hp r' h
    ·simp only [Bool.not_eq_false', decide_eq_true_eq] at hb
     exact hb
  ·obtain rfl : i = rs.length := by omega
   rw [List.take_length] at hp
   refine ⟨_, rfl, ?_, m1⟩
   rw [bads_iff.2 hp]; rfl
 ·rintro v w1 ⟨x, rfl, hx, m1⟩
  exact ⟨x, rfl, by rw [hx], m1⟩
theorem find1_ok {x : Int} {A : Option Addr} {n c b o : Nat} {y : Int} (hc : w.cell? ⟨b, o, none⟩ = some (.int .i64 y)) :
  Ret Tryz.prog 43 #[.agg ([.int .i64 x, .slice A n c] : List Value).toArray, .pointer (some ⟨b, o, none⟩)] w fun v w' => v = .bool (x == y) ∧ Ext w w' := by
 refine L_43 x A n c _ w _ ?_
 intro b1 w1 e1 e2
 have hB : Blk w1 b1 67 ([.int .i64 x, .slice A n c] : List Value).toArray := Blk.new e1 e2
 have m1 : Ext w w1 := (Mod.refl _ _).alloc e2
 have hlt : b < w.heap.size := by
  rcases Nat.lt_or_ge b w.heap.size with h | h
  ·exact h
  ·have : w.heap[b]? = none := Array.getElem?_eq_none h
   simp [World.cell?, this] at hc
 refine ⟨x, by rw [hB.cell]; rfl, b, o, rfl, y, ?_, rfl, m1⟩
 have := m1.block b hlt id
 unfold World.cell? at hc ⊢
 rw [this]; exact hc
end
end Go.Proofs.YtpkfdhlkknanmaaGreat
