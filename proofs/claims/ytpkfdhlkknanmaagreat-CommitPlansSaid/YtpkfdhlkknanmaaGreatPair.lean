/-
 Rows of pairs of a number and a slice (nodes, changes, puts).
-/
import Derived.Test.YtpkfdhlkknanmaaGreatKeys
set_option linter.all false
namespace Go.Proofs.YtpkfdhlkknanmaaGreat
open Go Go.RowKit Go.Proofs
structure Pr where
 k : Int
 A : Option Addr
 n : Nat
 c : Nat
def Pr.cells (p : Pr) : List Value := [.int .i64 p.k, .slice p.A p.n p.c]
def Pc (ps : List Pr) : List Value := ps.flatMap Pr.cells
theorem Pc_append (a b : List Pr) : Pc (a ++ b) = Pc a ++ Pc b := List.flatMap_append
theorem Pc_length : ∀ ps : List Pr, (Pc ps).length = ps.length * 2
 | [] => rfl
 | p :: ps => by
  have : Pc (p :: ps) = p.cells ++ Pc ps := rfl
  rw [this, List.length_append, Pc_length ps, List.length_cons]
  show 2 + _ = _
  omega
theorem Pr.one (p : Pr) : One p.cells := by
 intro v hv
 simp only [Pr.cells, List.mem_cons, List.not_mem_nil, or_false] at hv
 rcases hv with rfl | rfl <;> rfl
theorem Pc_get : ∀ {ps : List Pr} {i : Nat} {p : Pr}, ps[i]? = some p → ∀ (j : Nat) v, p.cells[j]? = some v → (Pc ps)[i * 2 + j]? = some v
 | [], i, p, hi, _, _, _ => by simp at hi
 | p0 :: ps, 0, p, hi, j, v, hj => by
  simp only [List.getElem?_cons_zero, Option.some.injEq] at hi
  subst hi
  have : Pc (p0 :: ps) = p0.cells ++ Pc ps := rfl
  rw [this, Nat.zero_mul, Nat.zero_add, List.getElem?_append_left (List.getElem?_eq_some_iff.1 hj).1]
  exact hj
 | p0 :: ps, i + 1, p, hi, j, v, hj => by
  have h1 : p0.cells.length = 2 := rfl
  have : Pc (p0 :: ps) = p0.cells ++ Pc ps := rfl
  rw [this, List.getElem?_append_right (by omega), show (i + 1) * 2 + j - p0.cells.length = i * 2 + j by omega]
  exact Pc_get (by simpa using hi) j v hj
def PrS {α : Type} (enc : List α → List Value) (w : World) (A : Option Addr) (l : List (Int × List α)) : Prop :=
 ∃ ps : List Pr, ps.length = l.length ∧ RdS w A (Pc ps) ∧ ∀ (i : Nat) p x, ps[i]? = some p → l[i]? = some x → p.k = x.1 ∧ p.n = x.2.length ∧ RdS w p.A (enc x.2)
section
variable {α : Type} {enc : List α → List Value} {w w' : World} {A : Option Addr} {l : List (Int × List α)}
theorem PrS.ext (h : PrS enc w A l) (hm : Ext w w') : PrS enc w' A l := by
 obtain ⟨ps, h1, h2, h3⟩ := h
 exact ⟨ps, h1, h2.ext hm, fun i p x hp hx => by obtain ⟨a, b, c⟩ := h3 i p x hp hx; exact ⟨a, b, c.ext hm⟩⟩
theorem PrS.at (h : PrS enc w A l) {i : Nat} {x : Int × List α} (hi : l[i]? = some x) :
  ∃ b o A' c', A = some ⟨b, o, none⟩ ∧ w.rangeAt b (o + ((i : Int)).toNat * 2) ([.int .i64 x.1, .slice A' x.2.length c'] : List Value) ∧ RdS w A' (enc x.2) := by
 obtain ⟨ps, h1, h2, h3⟩ := h
 have hil := (List.getElem?_eq_some_iff.1 hi).1
 obtain ⟨p, hp⟩ : ∃ p, ps[i]? = some p := ⟨_, List.getElem?_eq_getElem (by omega)⟩
 obtain ⟨a, b, c⟩ := h3 i p x hp hi
 rcases h2 with h | ⟨bl, o, e, hr⟩
 ·have := Pc_length ps
  rw [h, List.length_nil] at this; omega
 ·refine ⟨bl, o, p.A, p.c, e, fun j v hj => ?_, c⟩
  rw [Int.toNat_natCast]
  have hj' : p.cells[j]? = some v := by
   unfold Pr.cells
   rw [a, b]; exact hj
  have := hr _ v (Pc_get hp j v hj')
  rwa [← Nat.add_assoc] at this
theorem PrS.nil (w : World) (A : Option Addr) : PrS enc w A [] := ⟨[], rfl, .inl rfl, fun i p x hp => by simp at hp⟩
end
def PrO {α : Type} (t te sz : Nat) (enc : List α → List Value) (w : World) (base : Nat) (A : Option Addr) (c : Nat) (l : List (Int × List α)) : Prop :=
 ∃ ps : List Pr, ps.length = l.length ∧ Own w base t 2 A l.length c (Pc ps) ∧ ∀ (i : Nat) p x, ps[i]? = some p → l[i]? = some x → p.k = x.1 ∧ p.n = x.2.length ∧ Own w base te sz p.A x.2.length p.c (enc x.2)
def TyB (w : World) (j : Nat) (t : TypeId) : Prop := ∃ cs, Blk w j t cs
theorem Own.typ {base e size n c : Nat} {A : Option Addr} {xs : List Value} {w : World} (h : Own w base e size A n c xs) {b o : Nat} (hA : A = some ⟨b, o, none⟩) : TyB w b e := by
 subst hA
 rcases h.2 with ⟨e1, _⟩ | ⟨g, cap, cur, e1, _, hg, _⟩
 ·injection e1 with e1; cases e1
 ·injection e1 with e1
  injection e1 with e1
  injection e1 with e1
  subst e1
  exact ⟨cur, hg⟩
theorem TyB.uniq {w : World} {j t t' : Nat} (h : TyB w j t) (h' : TyB w j t') : t = t' := by
 obtain ⟨a, h⟩ := h
 obtain ⟨b, h'⟩ := h'
 unfold Blk at h h'
 rw [h] at h'
 injection h' with h'
 injection h' with _ h' _
section
variable {α : Type} {t te sz : Nat} {enc : List α → List Value} {w w' : World} {base : Nat} {A : Option Addr} {c : Nat} {l : List (Int × List α)}
theorem PrO.nil (w : World) (base : Nat) : PrO t te sz enc w base none 0 [] := ⟨[], rfl, own_nil w base _ 2, fun i p x hp => by simp at hp⟩
theorem PrO.rd (h : PrO t te sz enc w base A c l) : PrS enc w A l := by
 obtain ⟨ps, h1, h2, h3⟩ := h
 exact ⟨ps, h1, (Own.rd h2).rd, fun i p x hp hx => by obtain ⟨a, b, c⟩ := h3 i p x hp hx; exact ⟨a, b, (Own.rd c).rd⟩⟩
theorem PrO.mod {ψ : Nat → Prop} (h : PrO t te sz enc w base A c l) (hm : Mod ψ w w') (hn : ∀ j, base ≤ j → TyB w j t ∨ TyB w j te → ¬ ψ j) : PrO t te sz enc w' base A c l := by
 obtain ⟨ps, h1, h2, h3⟩ := h
 exact ⟨ps, h1, Own.ext h2 hm fun b o e => hn b (Own.base h2 b o e).1 (.inl (Own.typ h2 e)), fun i p x hp hx => by
  obtain ⟨a, b, c⟩ := h3 i p x hp hx
  exact ⟨a, b, Own.ext c hm fun b o e => hn b (Own.base c b o e).1 (.inr (Own.typ c e))⟩⟩
theorem PrO.ext (h : PrO t te sz enc w base A c l) (hm : Ext w w') : PrO t te sz enc w' base A c l := h.mod hm fun _ _ _ => id
theorem PrO.mono {b2 : Nat} (h : PrO t te sz enc w base A c l) (hb : b2 ≤ base) : PrO t te sz enc w b2 A c l := by
 obtain ⟨ps, h1, h2, h3⟩ := h
 exact ⟨ps, h1, Own.mono h2 hb, fun i p x hp hx => by obtain ⟨a, b, c⟩ := h3 i p x hp hx; exact ⟨a, b, Own.mono c hb⟩⟩
theorem PrO.push {by_ n b1 t' m : Nat} {zc : Array Value} {x : Int × List α} {A4 : Option Addr} {c4 : Nat} {w1 : World} {K : Option Addr → Nat → World → Prop} (h : PrO t te sz enc w base A c l) (hb : base ≤ w.heap.size) (hn : l.length = n)
  (e1 : b1 = w.heap.size) (e2 : w1 = w.alloc (.cells ([.int .i64 x.1, .slice A4 m c4] : List Value).toArray t')) (hm : x.2.length = m) (hx : Own w base te sz A4 m c4 (enc x.2)) (hne : t ≠ te) (hz : zc.size = 2)
  (hfew : n + 1 ≤ 1099511627776) (hby : by_ ≤ 64) (hK : ∀ A' c' w', PrO t te sz enc w' base A' c' (l ++ [x]) → Mod (fun j => base ≤ j ∧ TyB w j t) w w' → K A' c' w') :
  ∃ la lb : List Value, (n + 1) * by_ ≤ 140737488355328 ∧ la.length = n * 2 ∧ RdS w1 A la ∧ lb.length = 1 * 2 ∧ RdS w1 (some ⟨b1, 0, none⟩) lb ∧ One lb ∧ (n + 1 ≤ c → Room w1 A (n * 2) (1 * 2)) ∧
   ∀ A' c' w', Appended w1 t 2 zc A n c 1 la lb A' c' w' → K A' c' w' := by
 subst hn; subst hm
 have m1 : Ext w w1 := (Mod.refl _ _).alloc e2
 have hB : Blk w1 b1 t' (Pr.cells ⟨x.1, A4, x.2.length, c4⟩).toArray := Blk.new e1 e2
 obtain ⟨ps, h1, h2, h3⟩ := h.ext m1
 refine ⟨Pc ps, Pr.cells ⟨x.1, A4, x.2.length, c4⟩, ?_, by rw [Pc_length, h1], (Own.rd h2).rd, rfl, .inr ⟨b1, 0, rfl, hB.range_all⟩, Pr.one _, fun hc => Own.room h2 hc, fun A' c' w' ha => ?_⟩
 ·calc (l.length + 1) * by_ ≤ (l.length + 1) * 64 := Nat.mul_le_mul_left _ hby
   _ ≤ 140737488355328 := by omega
 obtain ⟨g1, g2, g3⟩ := Own.app h2 hz rfl (by have := m1.size; omega) ha
 have hty : ∀ j, TyB w1 j te → ¬ (∃ o, A = some ⟨j, o, none⟩) := fun j hj ⟨o, e⟩ => hne (TyB.uniq (Own.typ h2 e) hj)
 refine hK A' c' w' ⟨ps ++ [⟨x.1, A4, x.2.length, c4⟩], by simp [h1], ?_, fun i p y hp hy => ?_⟩ ?_
 ·rw [List.length_append, Pc_append]
  have : Pc [⟨x.1, A4, x.2.length, c4⟩] = Pr.cells ⟨x.1, A4, x.2.length, c4⟩ := List.append_nil _
  rw [this]
  exact g1
 ·rcases Nat.lt_or_ge i l.length with hi | hi
  ·rw [List.getElem?_append_left (by omega)] at hp hy
   obtain ⟨a, b, c⟩ := h3 i p y hp hy
   exact ⟨a, b, Own.ext c g2 fun b o e => hty b (Own.typ c e)⟩
  ·rw [List.getElem?_append_right (by omega)] at hp hy
   cases hd : i - l.length with
   | zero =>
    rw [h1, hd] at hp
    rw [hd] at hy
    cases hp; cases hy
    have hx1 := Own.ext hx m1 fun _ _ _ => id
    exact ⟨rfl, rfl, Own.ext hx1 g2 fun b o e => hty b (Own.typ hx1 e)⟩
   | succ k => rw [hd] at hy; simp at hy
 ·have hlt : ∀ j, j < w.heap.size → TyB w1 j t → TyB w j t := fun j hj ⟨cs, hc⟩ => ⟨cs, (m1.block j hj id).symm.trans hc⟩
  exact (Mod.of_ext m1).trans (g2.mono fun j hj ⟨o, e⟩ => ⟨(Own.base h2 j o e).1, (by
   rcases Nat.lt_or_ge j w.heap.size with hlt2 | hge
   ·exact hlt j hlt2 (Own.typ h2 e)
   ·exact absurd e (by
     obtain ⟨ps0, _, h20, _⟩ := h
     intro e'
     have := (Own.base h20 j o e').2
     omega))⟩)
end
end Go.Proofs.YtpkfdhlkknanmaaGreat
