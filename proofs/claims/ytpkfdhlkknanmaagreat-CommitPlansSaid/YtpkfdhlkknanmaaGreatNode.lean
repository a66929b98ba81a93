/-
 Lists of references; a node's page.
-/
import Derived.Test.YtpkfdhlkknanmaaGreatSeal
set_option linter.all false
namespace Go.Proofs.YtpkfdhlkknanmaaGreat
open Go Go.RowKit Go.Proofs
def Rc (rs : List Rf) : List Value := rs.flatMap Rf.cells
def RsOk (rs : List Rf) : Prop := ∀ r ∈ rs, r.Ok
theorem Rc_append (a b : List Rf) : Rc (a ++ b) = Rc a ++ Rc b := List.flatMap_append
theorem Rc_length : ∀ {rs : List Rf}, RsOk rs → (Rc rs).length = rs.length * 34
 | [], _ => rfl
 | r :: rs, h => by
  have h1 := Rf.Ok.clen (h r (List.mem_cons_self ..))
  have h2 := Rc_length (rs := rs) fun r hr => h r (List.mem_cons_of_mem _ hr)
  have : Rc (r :: rs) = r.cells ++ Rc rs := rfl
  rw [this, List.length_append, h1, h2, List.length_cons]; omega
theorem Rc_one (rs : List Rf) : One (Rc rs) := by
 intro v hv
 simp only [Rc, List.mem_flatMap] at hv
 obtain ⟨r, _, hv⟩ := hv
 exact r.one v hv
theorem Rc_get : ∀ {rs : List Rf} {i : Nat} {r : Rf}, RsOk rs → rs[i]? = some r → ∀ (j : Nat) v, r.cells[j]? = some v → (Rc rs)[i * 34 + j]? = some v
 | [], i, r, _, hi, _, _, _ => by simp at hi
 | r0 :: rs, 0, r, h, hi, j, v, hj => by
  simp only [List.getElem?_cons_zero, Option.some.injEq] at hi
  subst hi
  have : Rc (r0 :: rs) = r0.cells ++ Rc rs := rfl
  rw [this, Nat.zero_mul, Nat.zero_add, List.getElem?_append_left (List.getElem?_eq_some_iff.1 hj).1]
  exact hj
 | r0 :: rs, i + 1, r, h, hi, j, v, hj => by
  have h1 := Rf.Ok.clen (h r0 (List.mem_cons_self ..))
  have : Rc (r0 :: rs) = r0.cells ++ Rc rs := rfl
  rw [this, List.getElem?_append_right (by omega), show (i + 1) * 34 + j - r0.cells.length = i * 34 + j by omega]
  exact Rc_get (fun r hr => h r (List.mem_cons_of_mem _ hr)) (by simpa using hi) j v hj
theorem RdS.refs {w : World} {A : Option Addr} {rs : List Rf} (h : RdS w A (Rc rs)) (hok : RsOk rs) (hne : 0 < rs.length) : ∃ b o, A = some ⟨b, o, none⟩ ∧ ∀ (i : Nat) r, rs[i]? = some r → w.rangeAt b (o + ((i : Int)).toNat * 34) r.cells := by
 rcases h with h | ⟨b, o, e, hr⟩
 ·have := Rc_length hok
  rw [h, List.length_nil] at this; omega
 ·refine ⟨b, o, e, fun i r hi j v hj => ?_⟩
  rw [Int.toNat_natCast]
  have := hr _ v (Rc_get hok hi j v hj)
  rwa [← Nat.add_assoc] at this
def OR (t : TypeId) (w : World) (base : Nat) (A : Option Addr) (c : Nat) (rs : List Rf) : Prop := Own w base t 34 A rs.length c (Rc rs)
theorem OR.rdp {t : TypeId} {w : World} {base : Nat} {A : Option Addr} {c : Nat} {rs : List Rf} (h : OR t w base A c rs) : RdP (fun k => base ≤ k ∧ k < w.heap.size) w A (Rc rs) := Own.rd h
theorem OR.ext {t : TypeId} {w w' : World} {base : Nat} {A : Option Addr} {c : Nat} {rs : List Rf} (h : OR t w base A c rs) (hm : Ext w w') : OR t w' base A c rs := Own.ext h hm fun _ _ _ => id
theorem OR.mod {t : TypeId} {ψ : Nat → Prop} {w w' : World} {base : Nat} {A : Option Addr} {c : Nat} {rs : List Rf} (h : OR t w base A c rs) (hm : Mod ψ w w') (hn : ∀ j, base ≤ j → ¬ ψ j) : OR t w' base A c rs := Own.ext h hm fun b o e => hn b (Own.base h b o e).1
theorem Own.mono {w : World} {base b2 e size n c : Nat} {A : Option Addr} {xs : List Value} (h : Own w base e size A n c xs) (hb : b2 ≤ base) : Own w b2 e size A n c xs := by
 refine ⟨h.1, ?_⟩
 rcases h.2 with h | ⟨g, cap, cur, e, h1, h2⟩
 ·exact .inl h
 ·exact .inr ⟨g, cap, cur, e, by omega, h2⟩
def PlOk (r : Rf) : Prop := r.p = 0 ∨ r.p = 1
def nodeL (rs : List Rf) : List Int := ((rs.length : Int) :: rs.flatMap layR) ++ List.replicate (256 - (1 + 37 * rs.length)) 0
theorem flat_len : ∀ {rs : List Rf}, RsOk rs → (rs.flatMap layR).length = 37 * rs.length
 | [], _ => rfl
 | r :: rs, h => by
  rw [List.flatMap_cons, List.length_append, layR_length (h r (List.mem_cons_self ..)).len, flat_len fun r hr => h r (List.mem_cons_of_mem _ hr), List.length_cons]; omega
theorem nodeL_length {rs : List Rf} (h : RsOk rs) (h6 : rs.length ≤ 6) : (nodeL rs).length = 256 := by
 simp [nodeL, flat_len h]; omega
theorem flat_snoc {rs : List Rf} {i : Nat} {r : Rf} (h : rs[i]? = some r) : (rs.take (i + 1)).flatMap layR = (rs.take i).flatMap layR ++ layR r := by rw [List.take_succ, h]; simp
section
variable {w : World} {A : Option Addr} {n c : Nat} {rs : List Rf}
theorem nodelay_ok (hl : rs.length = n) (hn : 1 ≤ n ∧ n ≤ 6) (hr : RdS w A (Rc rs)) (hok : RsOk rs) (hp : ∀ r ∈ rs, PlOk r) : Ret Tryz.prog 22 #[.slice A n c] w fun v w' =>
  ∃ A' c', v = .tuple #[.slice A' 256 c', .int .i64 0] ∧ OB w' w.heap.size A' c' (nodeL rs) ∧ Ext w w' := by
 subst hl
 refine L_22 A rs.length c w _ ⟨fun h => absurd h (by omega), fun _ => ⟨fun h => absurd h (by omega), fun _ => ?_⟩⟩
 intro b1 w1 e1 e2
 have m1 : Ext w w1 := (Mod.refl _ _).alloc e2
 have t1 : b1 < w1.heap.size := by rw [e2, e1]; simp
 have hO : OB w1 b1 (some ⟨b1, 0, none⟩) 1 ([(rs.length : Int)] ++ (rs.take 0).flatMap layR) := by
  have := Own.new (w := w1) (e := 5) (size := 1) (n := 1) (cs := By [(rs.length : Int)]) (g := b1) (by rfl) (by decide) (Nat.le_refl b1) (by
   have h0 := Blk.new e1 e2
   rw [wrap_u8 (by omega) (by omega)] at h0
   exact h0)
  exact this
 refine ⟨fun A' n' c' x w2 => ∃ i : Nat, x = i ∧ i ≤ rs.length ∧ n' = 1 + 37 * i ∧ OB w2 b1 A' c' ([(rs.length : Int)] ++ (rs.take i).flatMap layR) ∧ Mod (fun j => b1 ≤ j) w1 w2, fun _ _ _ x _ => (10 - x).toNat, ⟨0, rfl, by omega, rfl, hO, Mod.refl _ _⟩, ?_⟩
 rintro A2 n2 c2 x1 w2 ⟨i, rfl, hi, rfl, o2, m2⟩
 have s2 := m2.size
 have mw2 : Ext w w2 := Fro.ext ((Mod.of_ext m1).trans (m2.mono fun j hj hb => by omega))
 have hlen : ∀ i, i ≤ rs.length → ([(rs.length : Int)] ++ (rs.take i).flatMap layR).length = 1 + 37 * i := fun i hi => by
  rw [List.length_append, flat_len fun r hr => hok r (List.mem_of_mem_take hr), List.length_take]; simp; omega
 refine ⟨fun hlt => ?_, fun hge => ?_⟩
 ·obtain ⟨b2, o1, hA, hrow⟩ := (hr.ext mw2).refs hok (by omega)
  obtain ⟨r, hri⟩ : ∃ r, rs[i]? = some r := ⟨_, List.getElem?_eq_getElem (by omega)⟩
  have hrok := hok r (List.mem_of_getElem? hri)
  have hrp := hp r (List.mem_of_getElem? hri)
  refine ⟨b2, o1, hA, by omega, by omega, r.p, r.e, By r.d, by simp [hrok.len], hrow i r hri, ?_⟩
  intro b3 w3 e3 e4
  have m3 : Ext w2 w3 := (Mod.refl _ _).alloc e4
  have hB3 : Blk w3 b3 46 rf0.cells.toArray := Blk.new e3 e4
  refine ⟨hrok.clen, r.one, lay_ok hB3 hrok.clen (by rfl) fun w4 h4 m4 => ?_⟩
  have m24 : Mod (fun j => j = b3) w2 w4 := (Mod.of_ext m3).trans m4
  have o4 : OB w4 b1 A2 c2 ([(rs.length : Int)] ++ (rs.take i).flatMap layR) := Own.ext o2 m24 fun b o e hb => by
   have := (Own.base o2 b o e).2; omega
  have m14 : Mod (fun j => b1 ≤ j) w1 w4 := m2.trans (m24.mono fun j hj e => by omega)
  have s4 := m24.size
  have q1 : IntKind.i64.wrap ((i : Int) + 1) = ((i + 1 : Nat) : Int) := wrap_i64 (by omega) (by omega)
  rw [q1]
  have go : ∃ (x6 : Int) (x7 : Int) (d2 : List Value), d2.length = 32 ∧ w4.rangeAt b3 0 (([.int .i64 x6, .int .u32 x7] : List Value) ++ d2) ∧
    Ret Tryz.prog 47 #[.agg (([.int .i64 x6, .int .u32 x7] : List Value) ++ d2).toArray] w4 fun r1 w5 => ∃ (A3 : Option Addr) (n3 : Nat) (c3 : Nat), r1 = .slice A3 n3 c3 ∧
     ∃ l1 l2 : List Value, (1 + 37 * i + n3) * 1 ≤ 140737488355328 ∧ l1.length = (1 + 37 * i) * 1 ∧ RdS w5 A2 l1 ∧ l2.length = n3 * 1 ∧ RdS w5 A3 l2 ∧ One l2 ∧ (1 + 37 * i + n3 ≤ c2 → Room w5 A2 ((1 + 37 * i) * 1) (n3 * 1)) ∧
     ∀ A4 c4 w6, Appended w5 5 1 #[.int .u8 0] A2 (1 + 37 * i) c2 n3 l1 l2 A4 c4 w6 →
      (∃ i' : Nat, (((i + 1 : Nat) : Int)) = i' ∧ i' ≤ rs.length ∧ 1 + 37 * i + n3 = 1 + 37 * i' ∧ OB w6 b1 A4 c4 ([(rs.length : Int)] ++ (rs.take i').flatMap layR) ∧ Mod (fun j => b1 ≤ j) w1 w6) ∧ (10 - (((i + 1 : Nat) : Int))).toNat < (10 - (i : Int)).toNat := by
   refine ⟨r.p, r.e, By r.d, by simp [hrok.len], h4.range_all, (seallay_ok hrok).mono ?_⟩
   rintro v w5 ⟨A3, c3, rfl, o5, m5⟩
   refine ⟨A3, 37, c3, rfl, (o4.ext m5).app (k := layR r) (by have := m5.size; omega) (hlen i hi) (layR_length hrok.len) o5.rd (by omega) fun A4 c4 w6 o6 f6 => ⟨⟨i + 1, rfl, by omega, by omega, ?_, (m14.ext m5).trans f6⟩, by omega⟩⟩
   rw [flat_snoc hri, ← List.append_assoc]; exact o6
  refine ⟨r.p, by rw [h4.cell]; rfl, fun hne => ⟨r.p, by rw [h4.cell]; rfl, fun hne1 => ?_, fun _ => go⟩, fun _ => go⟩
  rcases hrp with h | h <;> omega
 ·obtain rfl : i = rs.length := by omega
  rw [List.take_length] at o2
  have hl2 := hlen rs.length (Nat.le_refl _)
  rw [List.take_length] at hl2
  refine (fill_ok (x := 256) hl2 o2.rd (by omega) (by decide)).mono ?_
  rintro v w9 (⟨hbad, _⟩ | ⟨_, A7, c7, rfl, o9, m9⟩)
  ·omega
  ·refine ⟨A7, _, c7, 0, rfl, A7, c7, rfl, ?_, mw2.trans m9⟩
   exact Own.mono o9 (by have := mw2.size; omega)
theorem refnodelay_ok (hl : rs.length = n) (hn : 1 ≤ n ∧ n ≤ 6) (hr : RdS w A (Rc rs)) (hok : RsOk rs) (hp : ∀ r ∈ rs, PlOk r) : Ret Tryz.prog 30 #[.slice A n c] w fun v w' =>
  ∃ A' c', v = .tuple #[.slice A' 256 c', .int .i64 0] ∧ OB w' w.heap.size A' c' (nodeL rs) ∧ Ext w w' := by
 subst hl
 refine L_30 A rs.length c w _ ⟨fun h => absurd h (by omega), fun _ => ⟨fun h => absurd h (by omega), fun _ => ?_⟩⟩
 intro b1 w1 e1 e2
 have m1 : Ext w w1 := (Mod.refl _ _).alloc e2
 have t1 : b1 < w1.heap.size := by rw [e2, e1]; simp
 have hO : OB w1 b1 (some ⟨b1, 0, none⟩) 1 ([(rs.length : Int)] ++ (rs.take 0).flatMap layR) := by
  have := Own.new (w := w1) (e := 5) (size := 1) (n := 1) (cs := By [(rs.length : Int)]) (g := b1) (by rfl) (by decide) (Nat.le_refl b1) (by
   have h0 := Blk.new e1 e2
   rw [wrap_u8 (by omega) (by omega)] at h0
   exact h0)
  exact this
 refine ⟨fun A' n' c' x w2 => ∃ i : Nat, x = i ∧ i ≤ rs.length ∧ n' = 1 + 37 * i ∧ OB w2 b1 A' c' ([(rs.length : Int)] ++ (rs.take i).flatMap layR) ∧ Mod (fun j => b1 ≤ j) w1 w2, fun _ _ _ x _ => (10 - x).toNat, ⟨0, rfl, by omega, rfl, hO, Mod.refl _ _⟩, ?_⟩
 rintro A2 n2 c2 x1 w2 ⟨i, rfl, hi, rfl, o2, m2⟩
 have s2 := m2.size
 have mw2 : Ext w w2 := Fro.ext ((Mod.of_ext m1).trans (m2.mono fun j hj hb => by omega))
 have hlen : ∀ i, i ≤ rs.length → ([(rs.length : Int)] ++ (rs.take i).flatMap layR).length = 1 + 37 * i := fun i hi => by
  rw [List.length_append, flat_len fun r hr => hok r (List.mem_of_mem_take hr), List.length_take]; simp; omega
 refine ⟨fun hlt => ?_, fun hge => ?_⟩
 ·obtain ⟨b2, o1, hA, hrow⟩ := (hr.ext mw2).refs hok (by omega)
  obtain ⟨r, hri⟩ : ∃ r, rs[i]? = some r := ⟨_, List.getElem?_eq_getElem (by omega)⟩
  have hrok := hok r (List.mem_of_getElem? hri)
  have hrp := hp r (List.mem_of_getElem? hri)
  have hcell : w2.cell? ⟨b2, o1 + ((i : Int)).toNat * 34, none⟩ = some (.int .i64 r.p) := hrow i r hri 0 _ rfl
  have q1 : IntKind.i64.wrap ((i : Int) + 1) = ((i + 1 : Nat) : Int) := wrap_i64 (by omega) (by omega)
  rw [q1]
  refine ⟨b2, o1, hA, by omega, by omega, r.p, hcell, fun h => absurd h (by rcases hrp with h | h <;> omega), fun _ => ⟨by omega, by omega, r.p, hcell, fun h => absurd h (by rcases hrp with h | h <;> omega), fun _ => ⟨by omega, by omega, r.p, r.e, By r.d, by simp [hrok.len], hrow i r hri, (reflay_ok hrok).mono ?_⟩⟩⟩
  rintro v w5 ⟨A3, c3, rfl, o5, m5⟩
  refine ⟨A3, 37, c3, rfl, (o2.ext m5).app (k := layR r) (by have := m5.size; omega) (hlen i hi) (layR_length hrok.len) o5.rd (by omega) fun A4 c4 w6 o6 f6 => ⟨⟨i + 1, rfl, by omega, by omega, ?_, (m2.ext m5).trans f6⟩, by dsimp only; omega⟩⟩
  rw [flat_snoc hri, ← List.append_assoc]; exact o6
 ·obtain rfl : i = rs.length := by omega
  rw [List.take_length] at o2
  have hl2 := hlen rs.length (Nat.le_refl _)
  rw [List.take_length] at hl2
  generalize hh : [(rs.length : Int)] ++ rs.flatMap layR = hd at *
  refine ⟨fun A' n' c' w5 => ∃ j : Nat, j ≤ 256 - (1 + 37 * rs.length) ∧ n' = 1 + 37 * rs.length + j ∧ OB w5 b1 A' c' (hd ++ List.replicate j 0) ∧ Mod (fun j => b1 ≤ j) w1 w5, fun _ n' _ _ => 256 - n', ⟨0, by omega, by omega, by simpa using o2, m2⟩, ?_⟩
  rintro A5 n4 c5 w5 ⟨j, hj, rfl, o5, m5⟩
  have s5 := m5.size
  refine ⟨fun hlt => ?_, fun hge2 => ?_⟩
  ·intro b3 w6 e3 e4
   refine o5.push (by omega) (by simp [hl2]) e3 e4 (by omega) fun A6 c6 w7 o7 f7 => ⟨⟨j + 1, by omega, by omega, ?_, m5.trans f7⟩, by dsimp only; omega⟩
   rw [List.replicate_succ', ← List.append_assoc]; exact o7
  ·have hj2 : j = 256 - (1 + 37 * rs.length) := by omega
   have e256 : 1 + 37 * rs.length + j = 256 := by omega
   refine ⟨A5, c5, by rw [e256], ?_, Fro.ext ((Mod.of_ext m1).trans (m5.mono fun j hj hb => by omega))⟩
   have : nodeL rs = hd ++ List.replicate j 0 := by rw [hj2, ← hh]; rfl
   rw [this]
   exact Own.mono o5 (by omega)
theorem clonerefs_ok (hl : rs.length = n) (hr : RdS w A (Rc rs)) (hok : RsOk rs) (few : n ≤ 100000) : Ret Tryz.prog 21 #[.slice A n c] w fun v w' =>
  ∃ A' c', v = .slice A' n c' ∧ OR 46 w' w.heap.size A' c' rs ∧ Ext w w' := by
 subst hl
 refine L_21 A rs.length c w _ ⟨fun h => ?_, fun _ => ?_⟩
 ·subst h
  have := rds_none hr
  have h2 := Rc_length hok
  rw [this] at h2
  have : rs = [] := List.eq_nil_of_length_eq_zero (by simp at h2; omega)
  subst this
  exact ⟨none, 0, rfl, own_nil _ _ _ _, Mod.refl _ _⟩
 ·intro b1 w1 e1 e2
  have m1 : Ext w w1 := (Mod.refl _ _).alloc e2
  have s1 := m1.size
  have hB : Blk w1 b1 46 ([] : List Value).toArray := Blk.new e1 e2
  have hO : Own w1 w.heap.size 46 34 (some ⟨b1, 0, none⟩) 0 0 [] := Own.new (cs := []) rfl (by decide) (by omega) hB
  refine ⟨[], Rc rs, by omega, rfl, .inl rfl, Rc_length hok, hr.ext m1, Rc_one rs, fun h => hO.room h, fun A2 c2 w2 ha => ?_⟩
  obtain ⟨h1, h2⟩ := Own.fro hO rfl (Rc_length hok) s1 ha
  refine ⟨A2, c2, by rw [Nat.zero_add], ?_, Fro.ext ((Mod.of_ext m1).trans h2)⟩
  unfold OR
  have := h1
  rw [Nat.zero_add, List.nil_append] at this
  exact this
end
end Go.Proofs.YtpkfdhlkknanmaaGreat
