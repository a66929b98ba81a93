/-
 Words of 32 bits as numbers; arrays of numbers that lie in blocks; rows of numbers of any kind.
-/
import Derived.Test.YtpkfdhlkknanmaaGreatDrx
set_option linter.all false
namespace Go.Proofs.YtpkfdhlkknanmaaGreat
open Go Go.RowKit
/-! ### numbers of a kind as cells -/
def Iv (k : IntKind) (l : List Int) : List Value := l.map (Value.int k)
@[simp] theorem Iv_length (k : IntKind) (l : List Int) : (Iv k l).length = l.length := by simp [Iv]
theorem Iv_get {k : IntKind} {l : List Int} {i : Nat} {x : Int} (h : l[i]? = some x) : (Iv k l)[i]? = some (.int k x) := by simp [Iv, h]
theorem Iv_get' {k : IntKind} {l : List Int} {i : Nat} {v : Value} (h : (Iv k l)[i]? = some v) : ∃ x, l[i]? = some x ∧ v = .int k x := by
 simp only [Iv, List.getElem?_map, Option.map_eq_some_iff] at h
 obtain ⟨x, h1, h2⟩ := h
 exact ⟨x, h1, h2.symm⟩
theorem One_Iv (k : IntKind) (l : List Int) : One (Iv k l) := by
 intro v hv
 simp only [Iv, List.mem_map] at hv
 obtain ⟨x, _, rfl⟩ := hv
 rfl
theorem Iv_append (k : IntKind) (a b : List Int) : Iv k (a ++ b) = Iv k a ++ Iv k b := by simp [Iv]
theorem Iv_set (k : IntKind) (a : List Int) (n : Nat) (x : Int) : (Iv k a).set n (.int k x) = Iv k (a.set n x) := by simp [Iv, List.map_set]
theorem Iv_replicate (k : IntKind) (n : Nat) (x : Int) : Iv k (List.replicate n x) = List.replicate n (.int k x) := by simp [Iv]
section
variable {w w' : World} {g t : Nat} {k : IntKind} {l : List Int}
theorem Blk.ldv (h : Blk w g t (Iv k l).toArray) {i : Nat} {x : Int} (hi : l[i]? = some x) : w.cell? ⟨g, 0 + ((i : Int)).toNat * 1, none⟩ = some (.int k x) := by
 rw [Nat.zero_add, Nat.mul_one, Int.toNat_natCast, h.cell, List.getElem?_toArray, Iv_get hi]
theorem Blk.ldc (h : Blk w g t (Iv k l).toArray) {i : Nat} {x : Int} (hi : l[i]? = some x) : w.cell? ⟨g, i, none⟩ = some (.int k x) := by
 rw [h.cell, List.getElem?_toArray, Iv_get hi]
theorem Blk.setv (h : Blk w g t (Iv k l).toArray) {i : Nat} {u : Int} (e : w' = w.setCell ⟨g, i, none⟩ (.int k u)) : Blk w' g t (Iv k (l.set i u)).toArray := by
 have := h.set e
 rwa [List.setIfInBounds_toArray, Iv_set] at this
theorem Mod.setv {v : Value} {i : Nat} (e : w' = w.setCell ⟨g, i, none⟩ v) : Mod (fun j => j = g) w w' := (Mod.refl _ _).set (.inr rfl) e
theorem Blk.stv (h : Blk w g t (Iv k l).toArray) {i : Nat} {u : Int} (hi : i < l.length) {K : World → Prop} (hK : ∀ w', Blk w' g t (Iv k (l.set i u)).toArray → Mod (fun j => j = g) w w' → K w') :
  (w.cell? ⟨g, 0 + ((i : Int)).toNat * 1, none⟩).isSome = true ∧ w.frozen? ⟨g, 0 + ((i : Int)).toNat * 1, none⟩ = false ∧ ∀ w', w' = w.setCell ⟨g, 0 + ((i : Int)).toNat * 1, none⟩ (.int k u) → K w' := by
 refine ⟨by rw [h.ldv (x := l[i]'hi) (by simp [hi])]; rfl, h.frozen _, fun w' e => ?_⟩
 rw [Nat.zero_add, Nat.mul_one, Int.toNat_natCast] at e
 exact hK w' (h.setv e) (Mod.setv e)
theorem Blk.stc (h : Blk w g t (Iv k l).toArray) {i : Nat} {u : Int} (hi : i < l.length) {K : World → Prop} (hK : ∀ w', Blk w' g t (Iv k (l.set i u)).toArray → Mod (fun j => j = g) w w' → K w') :
  (w.cell? ⟨g, i, none⟩).isSome = true ∧ w.frozen? ⟨g, i, none⟩ = false ∧ ∀ w', w' = w.setCell ⟨g, i, none⟩ (.int k u) → K w' := by
 refine ⟨by rw [h.ldc (x := l[i]'hi) (by simp [hi])]; rfl, h.frozen _, fun w' e => ?_⟩
 exact hK w' (h.setv e) (Mod.setv e)
end
/-- What lies in one block is laid into another one, and handed back. -/
theorem out_ok {w : World} {n b1 b2 t1 t2 : Nat} {cs cs1 : List Value} {K : List Value → World → Prop} (h2 : Blk w b2 t2 cs.toArray) (h1 : Blk w b1 t1 cs1.toArray) (hl : cs.length = n) (hl1 : cs1.length = n) (ho : One cs)
  (hK : ∀ w', Mod (fun j => j = b1) w w' → K cs w') :
  ∃ d1 : List Value, d1.length = n ∧ w.rangeAt b2 0 d1 ∧ d1.length = n ∧ One d1 ∧ w.there b1 0 n ∧ ∀ w', w' = w.setCells b1 0 d1 → ∃ d2 : List Value, d2.length = n ∧ w'.rangeAt b1 0 d2 ∧ K d2 w' := by
 refine ⟨cs, hl, h2.range_all, hl, ho, h1.there (by simp; omega), fun w' e => ?_⟩
 have hs := Blk.sets (t := t1) cs 0 w cs1 h1 (by omega)
 rw [← e] at hs
 have : (cs1.take 0 ++ cs ++ cs1.drop (0 + cs.length)).toArray = cs.toArray := by simp [hl, ← hl1]
 rw [this] at hs
 exact ⟨cs, hl, hs.range_all, hK w' ((Mod.refl _ _).sets (.inr rfl) e)⟩
/-- What is laid into a block that is known whole. -/
theorem lay_ok {w : World} {n b1 t1 : Nat} {cs cs1 : List Value} (h1 : Blk w b1 t1 cs1.toArray) (hl : cs.length = n) (hl1 : cs1.length = n) {K : World → Prop}
  (hK : ∀ w', Blk w' b1 t1 cs.toArray → Mod (fun j => j = b1) w w' → K w') : w.there b1 0 n ∧ ∀ w', w' = w.setCells b1 0 cs → K w' := by
 refine ⟨h1.there (by simp; omega), fun w' e => ?_⟩
 have hs := Blk.sets (t := t1) cs 0 w cs1 h1 (by omega)
 rw [← e] at hs
 have : (cs1.take 0 ++ cs ++ cs1.drop (0 + cs.length)).toArray = cs.toArray := by simp [hl, ← hl1]
 rw [this] at hs
 exact hK w' hs ((Mod.refl _ _).sets (.inr rfl) e)
/-! ### rows of numbers of the call's own -/
/-- Only blocks from 'base' on are others. -/
abbrev Fro (base : Nat) (w w' : World) : Prop := Mod (fun k => base ≤ k) w w'
theorem Fro.ext {w w' : World} (h : Fro w.heap.size w w') : Ext w w' := h.mono fun k hk hb => by omega
theorem rds_none {w : World} {xs : List Value} (h : RdS w none xs) : xs = [] := by
 rcases h with h | ⟨_, _, h, _⟩
 ·exact h
 ·cases h
theorem RdS.mod {ψ : Nat → Prop} {w w' : World} {A : Option Addr} {xs : List Value} (h : RdS w A xs) (hm : Mod ψ w w') (hn : ∀ b o, A = some ⟨b, o, none⟩ → ¬ ψ b) : RdS w' A xs := by
 rcases h with rfl | ⟨b, o, e, hr⟩
 ·exact .inl rfl
 ·exact .inr ⟨b, o, e, range_mod hr hm (hn b o e)⟩
theorem RdS.ext {w w' : World} {A : Option Addr} {xs : List Value} (h : RdS w A xs) (hm : Ext w w') : RdS w' A xs := h.mod hm fun _ _ _ => id
theorem RdS.fro {w w0 w' : World} {A : Option Addr} {xs : List Value} (h : RdS w A xs) (hm : Fro w.heap.size w w') : RdS w' A xs := h.ext hm.ext
theorem RdS.take {w : World} {A : Option Addr} {xs : List Value} (h : RdS w A xs) (k : Nat) : RdS w A (xs.take k) := by
 have : RdP (fun _ => True) w A xs := h.imp id fun ⟨b, o, h⟩ => ⟨b, o, trivial, h⟩
 exact (this.take k).rd
theorem RdS.at {w : World} {A : Option Addr} {xs : List Value} (h : RdS w A xs) {i : Nat} {v : Value} (hi : xs[i]? = some v) : ∃ b o, A = some ⟨b, o, none⟩ ∧ w.cell? ⟨b, o + i, none⟩ = some v := by
 rcases h with rfl | ⟨b, o, e, hr⟩
 ·simp at hi
 ·exact ⟨b, o, e, hr i v hi⟩
theorem RdS.lt {w : World} {A : Option Addr} {xs : List Value} (h : RdS w A xs) : RdP (fun k => k < w.heap.size) w A xs := by
 have : RdP (fun _ => True) w A xs := h.imp id fun ⟨b, o, h⟩ => ⟨b, o, trivial, h⟩
 exact this.mono (ψ := fun k => k < w.heap.size) fun k hk _ => hk
theorem RdS.cut {w : World} {A : Option Addr} {xs : List Value} (h : RdS w A xs) {l m size : Nat} (hm : m = l → xs.drop (l * size) = []) : RdS w (cutA A l m size) (xs.drop (l * size)) :=
 (h.lt.cut hm).rd
theorem cutA_zero (A : Option Addr) (m size : Nat) : cutA A 0 m size = A := by
 unfold cutA
 split
 ·rfl
 ·cases A with
  | none => rfl
  | some a =>
   show some (a.add (0 * size)) = some a
   rw [Nat.zero_mul]
   rfl
/-- A row of numbers of the call's own. -/
def OX (t : TypeId) (k : IntKind) (w : World) (base : Nat) (A : Option Addr) (c : Nat) (l : List Int) : Prop := Own w base t 1 A l.length c (Iv k l)
section
variable {t : TypeId} {k : IntKind} {w w' : World} {base : Nat} {A : Option Addr} {c : Nat} {l : List Int}
theorem OX.nil (t : TypeId) (k : IntKind) (w : World) (base : Nat) : OX t k w base none 0 [] := own_nil w base _ 1
theorem OX.rdp (h : OX t k w base A c l) : RdP (fun b => base ≤ b ∧ b < w.heap.size) w A (Iv k l) := Own.rd h
theorem OX.rd (h : OX t k w base A c l) : RdS w A (Iv k l) := h.rdp.rd
theorem OX.ext (h : OX t k w base A c l) (hm : Ext w w') : OX t k w' base A c l := Own.ext h hm fun _ _ _ => id
theorem OX.mod {ψ : Nat → Prop} (h : OX t k w base A c l) (hm : Mod ψ w w') (hn : ∀ j, base ≤ j → ¬ ψ j) : OX t k w' base A c l := Own.ext h hm fun b o e => hn b (Own.base h b o e).1
theorem OX.mono {b2 : Nat} (h : OX t k w base A c l) (hb : b2 ≤ base) : OX t k w b2 A c l := by
 refine ⟨h.1, ?_⟩
 rcases h.2 with h | ⟨g, cap, cur, e, h1, h2⟩
 ·exact .inl h
 ·exact .inr ⟨g, cap, cur, e, by omega, h2⟩
theorem OX.room (h : OX t k w base A c l) {m : Nat} (hm : l.length + m ≤ c) : Room w A l.length m := by
 have := Own.room h hm
 simpa using this
theorem OX.at (h : OX t k w base A c l) {i : Nat} {x : Int} (hi : l[i]? = some x) : ∃ b o, A = some ⟨b, o, none⟩ ∧ w.cell? ⟨b, o + i, none⟩ = some (.int k x) := h.rd.at (Iv_get hi)
theorem Own.fro {e size n m c2 : Nat} {zc : Array Value} {A2 : Option Addr} {xs news : List Value} (h : Own w base e size A n c xs) (hz : zc.size = size) (hl : news.length = m * size)
  (hb : base ≤ w.heap.size) (ha : Appended w e size zc A n c m xs news A2 c2 w') : Own w' base e size A2 (n + m) c2 (xs ++ news) ∧ Fro base w w' := by
 obtain ⟨h1, h2, _⟩ := h.app hz hl hb ha
 exact ⟨h1, h2.mono fun k _ ⟨o, ho⟩ => (h.base k o ho).1⟩
/-- An append of numbers that are there. -/
theorem OX.app {by_ n m : Nat} {z : Value} {l2 : List Int} {B : Option Addr} {K : Option Addr → Nat → World → Prop} (h : OX t k w base A c l) (hb : base ≤ w.heap.size) (hn : l.length = n) (hk : l2.length = m) (hr : RdS w B (Iv k l2)) (hfew : n + m ≤ 1099511627776) (hby : by_ ≤ 64)
  (hK : ∀ A' c' w', OX t k w' base A' c' (l ++ l2) → Fro base w w' → K A' c' w') :
  ∃ la lb : List Value, (n + m) * by_ ≤ 140737488355328 ∧ la.length = n * 1 ∧ RdS w A la ∧ lb.length = m * 1 ∧ RdS w B lb ∧ One lb ∧ (n + m ≤ c → Room w A (n * 1) (m * 1)) ∧
   ∀ A' c' w', Appended w t 1 #[z] A n c m la lb A' c' w' → K A' c' w' := by
 subst hn; subst hk
 refine ⟨Iv k l, Iv k l2, ?_, by simp, h.rd, by simp, hr, One_Iv k l2, fun hc => by simpa using h.room hc, fun A' c' w' ha => ?_⟩
 ·calc (l.length + l2.length) * by_ ≤ (l.length + l2.length) * 64 := Nat.mul_le_mul_left _ hby
   _ ≤ 140737488355328 := by omega
 obtain ⟨h1, h2⟩ := Own.fro h rfl (by simp) hb ha
 refine hK A' c' w' ?_ h2
 unfold OX
 rw [Iv_append, List.length_append]
 exact h1
/-- An append of one number, out of a new block. -/
theorem OX.push {by_ n b1 : Nat} {z : Value} {x : Int} {w1 : World} {K : Option Addr → Nat → World → Prop} (h : OX t k w base A c l) (hb : base ≤ w.heap.size) (hn : l.length = n) (e1 : b1 = w.heap.size) (e2 : w1 = w.alloc (.cells ([.int k x] : List Value).toArray t))
  (hfew : n + 1 ≤ 1099511627776) (hby : by_ ≤ 64) (hK : ∀ A' c' w', OX t k w' base A' c' (l ++ [x]) → Fro base w w' → K A' c' w') :
  ∃ la lb : List Value, (n + 1) * by_ ≤ 140737488355328 ∧ la.length = n * 1 ∧ RdS w1 A la ∧ lb.length = 1 * 1 ∧ RdS w1 (some ⟨b1, 0, none⟩) lb ∧ One lb ∧ (n + 1 ≤ c → Room w1 A (n * 1) (1 * 1)) ∧
   ∀ A' c' w', Appended w1 t 1 #[z] A n c 1 la lb A' c' w' → K A' c' w' := by
 have m1 : Ext w w1 := (Mod.refl _ _).alloc e2
 have hB : Blk w1 b1 t ([.int k x] : List Value).toArray := Blk.new e1 e2
 refine (h.ext m1).app (l2 := [x]) (m := 1) (by have := m1.size; omega) hn rfl (.inr ⟨b1, 0, rfl, hB.range_all⟩) hfew hby fun A' c' w' h1 h2 => hK A' c' w' h1 ((Mod.of_ext m1).trans h2)
end
/-- A cell of a row of the call's own is written. -/
theorem OX.setAt {t : TypeId} {k : IntKind} {w : World} {base : Nat} {A : Option Addr} {c : Nat} {l : List Int} (h : OX t k w base A c l) {i : Nat} (hi : i < l.length) :
  ∃ g, A = some ⟨g, 0, none⟩ ∧ base ≤ g ∧ (∀ x, l[i]? = some x → w.cell? ⟨g, 0 + ((i : Int)).toNat * 1, none⟩ = some (.int k x)) ∧ (w.cell? ⟨g, 0 + ((i : Int)).toNat * 1, none⟩).isSome = true ∧ w.frozen? ⟨g, 0 + ((i : Int)).toNat * 1, none⟩ = false ∧
   ∀ u w', w' = w.setCell ⟨g, 0 + ((i : Int)).toNat * 1, none⟩ (.int k u) → OX t k w' base A c (l.set i u) ∧ Mod (fun j => j = g) w w' := by
 rcases h.2 with ⟨e1, e2⟩ | ⟨g, cap, cur, e1, hbg, hg, hnc, hcm, hs, htake⟩
 ·have : l = [] := List.eq_nil_of_length_eq_zero e2
  subst this; simp at hi
 ·injection e1 with eA _ ec
  subst eA; subst ec
  have hB : Blk w g t cur := hg
  have hcur : cur.toList.take (l.length * 1) = Iv k l := htake
  rw [Nat.mul_one] at hcur
  have hc1 : ∀ x, l[i]? = some x → w.cell? ⟨g, 0 + ((i : Int)).toNat * 1, none⟩ = some (.int k x) := fun x hx => by
   rw [Nat.zero_add, Nat.mul_one, Int.toNat_natCast, hB.cell]
   have h2 : (cur.toList.take l.length)[i]? = some (.int k x) := by rw [hcur]; exact Iv_get hx
   rw [List.getElem?_take_of_lt hi, Array.getElem?_toList] at h2
   exact h2
  refine ⟨g, rfl, hbg, hc1, ?_, hB.frozen _, fun u w' e => ?_⟩
  ·rw [hc1 (l[i]'hi) (by simp [hi])]; rfl
  ·rw [Nat.zero_add, Nat.mul_one, Int.toNat_natCast] at e
   refine ⟨⟨by simp, .inr ⟨g, c, _, by rw [List.length_set], hbg, hB.set e, by rw [List.length_set]; exact hnc, hcm, by simpa using hs, ?_⟩⟩, Mod.setv e⟩
   rw [List.length_set, Nat.mul_one]
   show (cur.setIfInBounds i (.int k u)).toList.take l.length = Iv k (l.set i u)
   rw [Array.toList_setIfInBounds, List.take_set, hcur, Iv_set]
/-! ### words of 32 bits -/
def R32 (x : Int) : Prop := 0 ≤ x ∧ x < 4294967296
def R8 (x : Int) : Prop := 0 ≤ x ∧ x < 256
theorem w32_eq (x : Int) : IntKind.u32.wrap x = x % 4294967296 := by
 simp only [IntKind.wrap, IntKind.bits, IntKind.signed, Bool.false_and, Bool.false_eq_true, if_false]; omega
theorem w8_eq (x : Int) : IntKind.u8.wrap x = x % 256 := by
 simp only [IntKind.wrap, IntKind.bits, IntKind.signed, Bool.false_and, Bool.false_eq_true, if_false]; omega
theorem w64_eq (x : Int) : IntKind.u64.wrap x = x % 18446744073709551616 := by
 simp only [IntKind.wrap, IntKind.bits, IntKind.signed, Bool.false_and, Bool.false_eq_true, if_false]; omega
theorem R32_wrap (x : Int) : R32 (IntKind.u32.wrap x) := by rw [w32_eq]; unfold R32; omega
theorem R8_wrap (x : Int) : R8 (IntKind.u8.wrap x) := by rw [w8_eq]; unfold R8; omega
theorem R32.wrap {x : Int} (h : R32 x) : IntKind.u32.wrap x = x := wrap_u32 h.1 h.2
theorem R8.r32 {x : Int} (h : R8 x) : R32 x := ⟨h.1, by have := h.2; omega⟩
theorem R32_xor (x y : Int) : R32 (bXor .u32 x y) := R32_wrap _
theorem bOr_u32 {x y : Nat} (hx : x < 2 ^ 32) (hy : y < 2 ^ 32) : bOr .u32 x y = ((x ||| y : Nat) : Int) := by
 have h1 : BitVec.ofInt 32 (x : Int) = BitVec.ofNat 32 x := by simp
 have h2 : BitVec.ofInt 32 (y : Int) = BitVec.ofNat 32 y := by simp
 show IntKind.u32.wrap (BitVec.ofInt 32 (x : Int) ||| BitVec.ofInt 32 (y : Int)).toNat = _
 rw [h1, h2, BitVec.toNat_or, BitVec.toNat_ofNat, BitVec.toNat_ofNat, Nat.mod_eq_of_lt hx, Nat.mod_eq_of_lt hy]
 have := Nat.or_lt_two_pow hx hy
 exact wrap_u32 (by omega) (by omega)
theorem xor_ones {x : Int} (h : R32 x) : bXor .u32 4294967295 x = IntKind.u32.wrap (4294967295 - x) := by
 obtain ⟨n, rfl⟩ : ∃ n : Nat, x = n := ⟨x.toNat, by have := h.1; omega⟩
 have hn : n < 4294967296 := by have := h.2; omega
 have h1 : BitVec.ofInt 32 (n : Int) = BitVec.ofNat 32 n := by simp
 have h2 : BitVec.ofInt 32 (4294967295 : Int) = BitVec.allOnes 32 := by decide
 show IntKind.u32.wrap (BitVec.ofInt 32 (4294967295 : Int) ^^^ BitVec.ofInt 32 (n : Int)).toNat = _
 rw [h1, h2, BitVec.allOnes_xor, BitVec.toNat_not, BitVec.toNat_ofNat, Nat.mod_eq_of_lt (by omega)]
 rw [w32_eq, w32_eq]
 omega
/-- A word turned left. -/
def rotl (n : Nat) (x : Int) : Int := (x % 2 ^ (32 - n)) * 2 ^ n + x / 2 ^ (32 - n)
theorem rotl_nat (n m : Nat) : rotl n (m : Int) = (((m % 2 ^ (32 - n)) * 2 ^ n + m / 2 ^ (32 - n) : Nat) : Int) := by
 unfold rotl
 push_cast
 rfl
theorem rotl_lt {n m : Nat} (hn : n < 32) (hm : m < 2 ^ 32) : (m % 2 ^ (32 - n)) * 2 ^ n + m / 2 ^ (32 - n) < 2 ^ 32 := by
 have e : 2 ^ (32 - n) * 2 ^ n = 2 ^ 32 := by rw [← Nat.pow_add]; congr 1; omega
 have h1 : m % 2 ^ (32 - n) < 2 ^ (32 - n) := Nat.mod_lt _ (Nat.two_pow_pos _)
 have h2 : m / 2 ^ (32 - n) < 2 ^ n := by
  rw [Nat.div_lt_iff_lt_mul (Nat.two_pow_pos _), Nat.mul_comm, e]; exact hm
 calc (m % 2 ^ (32 - n)) * 2 ^ n + m / 2 ^ (32 - n) < (m % 2 ^ (32 - n)) * 2 ^ n + 2 ^ n := by omega
  _ = (m % 2 ^ (32 - n) + 1) * 2 ^ n := by rw [Nat.add_mul, Nat.one_mul]
  _ ≤ 2 ^ (32 - n) * 2 ^ n := Nat.mul_le_mul_right _ h1
  _ = 2 ^ 32 := e
theorem R32.nat {x : Int} (h : R32 x) : ∃ m : Nat, x = m ∧ m < 2 ^ 32 := ⟨x.toNat, by have := h.1; omega, by have := h.1; have := h.2; omega⟩
theorem R32_nat {m : Nat} (h : m < 2 ^ 32) : R32 (m : Int) := ⟨by omega, by omega⟩
theorem R32_rotl {n : Nat} {x : Int} (hn : n < 32) (h : R32 x) : R32 (rotl n x) := by
 obtain ⟨m, rfl, hm⟩ := h.nat
 rw [rotl_nat]
 exact R32_nat (rotl_lt hn hm)
theorem rotl_or {n : Nat} {x : Int} (h : R32 x) (hn : 1 ≤ n ∧ n < 32) : bOr .u32 (iShl .u32 x n) (iShr .u32 x ((32 - n : Nat) : Int)) = rotl n x := by
 obtain ⟨m, rfl, hm⟩ := h.nat
 have e : 2 ^ (32 - n) * 2 ^ n = 2 ^ 32 := by rw [← Nat.pow_add]; congr 1; omega
 have h1 : iShl .u32 (m : Int) (n : Int) = (((m % 2 ^ (32 - n)) * 2 ^ n : Nat) : Int) := by
  unfold iShl
  have : min ((n : Int)).toNat IntKind.u32.bits = n := by simp [IntKind.bits]; omega
  rw [this, w32_eq]
  have e2 : ((m : Int) * 2 ^ n) = ((m * 2 ^ n : Nat) : Int) := by push_cast; rfl
  rw [e2]
  have e3 : (m * 2 ^ n) % 2 ^ 32 = (m % 2 ^ (32 - n)) * 2 ^ n := by rw [← e, Nat.mul_mod_mul_right]
  rw [← e3]
  omega
 have h2 : iShr .u32 (m : Int) ((32 - n : Nat) : Int) = ((m / 2 ^ (32 - n) : Nat) : Int) := by
  unfold iShr
  have : min (((32 - n : Nat) : Int)).toNat IntKind.u32.bits = 32 - n := by simp [IntKind.bits]
  rw [this, Int.fdiv_eq_ediv_of_nonneg _ (Int.le_of_lt (Int.pow_pos (by decide : (0 : Int) < 2)))]
  exact (Int.natCast_ediv m (2 ^ (32 - n)) |>.trans (by push_cast; rfl)).symm
 have hlt : m / 2 ^ (32 - n) < 2 ^ n := by
  rw [Nat.div_lt_iff_lt_mul (Nat.two_pow_pos _), Nat.mul_comm, e]; exact hm
 have hr := rotl_lt (n := n) hn.2 hm
 have hds := Nat.div_le_self m (2 ^ (32 - n))
 rw [h1, h2, bOr_u32 (Nat.lt_of_le_of_lt (Nat.le_add_right _ _) hr) (Nat.lt_of_le_of_lt hds hm), rotl_nat]
 congr 1
 rw [Nat.mul_comm, Nat.two_pow_add_eq_or_of_lt hlt]
/-- One step left, many times. -/
def stepL (x : Int) : Int := IntKind.u32.wrap (IntKind.u32.wrap (x * 2) + IntKind.u32.wrap (x.tdiv 2147483648))
def stepR (x : Int) : Int := IntKind.u32.wrap (IntKind.u32.wrap (x.tdiv 2) + IntKind.u32.wrap (x.tmod 2 * 2147483648))
theorem stepL_nat {m : Nat} (h : m < 2 ^ 32) : stepL (m : Int) = (((m % 2 ^ 31) * 2 + m / 2 ^ 31 : Nat) : Int) := by
 have hd : (m : Int).tdiv 2147483648 = (m / 2147483648 : Nat) := by rw [Int.tdiv_eq_ediv_of_nonneg (by omega)]; rfl
 unfold stepL
 rw [hd, w32_eq, w32_eq, w32_eq]
 omega
theorem stepR_nat {m : Nat} (h : m < 2 ^ 32) : stepR (m : Int) = ((m / 2 + (m % 2) * 2 ^ 31 : Nat) : Int) := by
 have hd : (m : Int).tdiv 2 = (m / 2 : Nat) := by rw [Int.tdiv_eq_ediv_of_nonneg (by omega)]; rfl
 have hm : (m : Int).tmod 2 = (m % 2 : Nat) := by rw [Int.tmod_eq_emod_of_nonneg (by omega)]; rfl
 unfold stepR
 rw [hd, hm, w32_eq, w32_eq, w32_eq]
 omega
theorem rotl_zero {x : Int} (h : R32 x) : rotl 0 x = x := by
 unfold rotl
 have := h.1; have := h.2
 simp
 omega
theorem rotl_succ {n : Nat} {x : Int} (hn : n < 31) (h : R32 x) : rotl (n + 1) x = stepL (rotl n x) := by
 obtain ⟨m, rfl, hm⟩ := h.nat
 rw [rotl_nat, rotl_nat, stepL_nat (rotl_lt (by omega) hm)]
 congr 1
 have e1 : 2 ^ (32 - n) = 2 * 2 ^ (31 - n) := by rw [← Nat.pow_succ']; congr 1; omega
 have e2 : 32 - (n + 1) = 31 - n := by omega
 have e3 : 2 ^ (31 - n) * 2 ^ n = 2 ^ 31 := by rw [← Nat.pow_add]; congr 1; omega
 rw [e1, e2, Nat.pow_succ]
 generalize hP : 2 ^ (31 - n) = P at *
 generalize hN : 2 ^ n = N at *
 have hP0 : 0 < P := by rw [← hP]; exact Nat.two_pow_pos _
 have hN0 : 0 < N := by rw [← hN]; exact Nat.two_pow_pos _
 -- m = (2 P) q + s, s = P a + r
 have hm2 : m = P * (2 * (m / (2 * P))) + m % (2 * P) := by
  have := Nat.div_add_mod m (2 * P)
  rw [← Nat.mul_assoc, Nat.mul_comm P 2]; exact this.symm
 have hq : m / P = 2 * (m / (2 * P)) + m % (2 * P) / P := by
  conv => lhs; rw [hm2, Nat.mul_add_div hP0]
 have hr : m % P = m % (2 * P) % P := by
  conv => lhs; rw [hm2, Nat.mul_add_mod]
 have hs : m % (2 * P) < 2 * P := Nat.mod_lt _ (by omega)
 have hql : m / (2 * P) < N := by
  rw [Nat.div_lt_iff_lt_mul (by omega)]
  have : N * (2 * P) = 2 * (P * N) := by rw [Nat.mul_comm N, Nat.mul_assoc]
  rw [this, e3]; omega
 rw [hr, hq]
 generalize m % (2 * P) = s at *
 generalize m / (2 * P) = q at *
 have hsd := Nat.div_add_mod s P
 have hrl : s % P < P := Nat.mod_lt _ hP0
 have ha : s / P < 2 := by rw [Nat.div_lt_iff_lt_mul hP0]; omega
 generalize s / P = a at *
 generalize s % P = r at *
 -- (P a + r) N + q
 have hbig : (P * a + r) * N + q = a * 2147483648 + (r * N + q) := by
  rw [Nat.add_mul, Nat.mul_right_comm, e3]; omega
 have hsm : r * N + q < 2147483648 := by
  have : r * N + N ≤ P * N := by rw [← Nat.succ_mul]; exact Nat.mul_le_mul_right _ hrl
  rw [e3] at this; omega
 rw [hsd.symm, hbig]
 have : r * (N * 2) = 2 * (r * N) := by rw [← Nat.mul_assoc]; omega
 rw [this]
 omega
theorem rotr_succ {n : Nat} {x : Int} (hn : n < 31) (h : R32 x) : rotl (32 - (n + 1)) x = stepR (rotl (32 - n) x) ∨ n = 0 := by
 rcases Nat.eq_zero_or_pos n with h0 | h0
 ·exact .inr h0
 refine .inl ?_
 have e : 32 - n = 31 - n + 1 := by omega
 have e2 : 32 - (n + 1) = 31 - n := by omega
 rw [e, e2, rotl_succ (by omega) h]
 obtain ⟨m, hm, hl⟩ := (R32_rotl (n := 31 - n) (by omega) h).nat
 rw [hm, stepL_nat hl, stepR_nat (by omega)]
 congr 1
 omega
end Go.Proofs.YtpkfdhlkknanmaaGreat
