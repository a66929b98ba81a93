/-
 Plans: the document's Plan.
-/
import Derived.Test.YtpkfdhlkknanmaaGreatPlan5
set_option linter.all false
namespace Go.Proofs.YtpkfdhlkknanmaaGreat
open Go Go.RowKit Go.Proofs
def told (Ap : Option Addr) (np cp : Nat) (An : Option Addr) (nn cn : Nat) (r : Rf) (er : Int) : List Value :=
 ([.slice Ap np cp, .slice An nn cn, .int .i64 r.p, .int .u32 r.e] : List Value) ++ By r.d ++ ([.int .i64 er] : List Value)
theorem told_one (Ap : Option Addr) (np cp : Nat) (An : Option Addr) (nn cn : Nat) (r : Rf) (er : Int) : One (told Ap np cp An nn cn r er) := by
 intro v hv
 simp only [told, List.mem_append, List.mem_cons, List.not_mem_nil, or_false] at hv
 rcases hv with ((rfl | rfl | rfl | rfl) | hv) | rfl
 ·rfl
 ·rfl
 ·rfl
 ·rfl
 ·exact One_By _ v hv
 ·rfl
theorem told_len {r : Rf} (h : r.Ok) (Ap : Option Addr) (np cp : Nat) (An : Option Addr) (nn cn : Nat) (er : Int) : (told Ap np cp An nn cn r er).length = 37 := by simp [told, h.len]
theorem told_mid (Ap : Option Addr) (np cp : Nat) (An : Option Addr) (nn cn : Nat) (r : Rf) (er : Int) : told Ap np cp An nn cn r er = ([.slice Ap np cp, .slice An nn cn] : List Value) ++ r.cells ++ ([.int .i64 er] : List Value) := by simp [told, Rf.cells]
theorem rf0_ok : rf0.Ok := ⟨by decide, fun x hx => by obtain ⟨_, rfl⟩ := List.mem_replicate.1 hx; exact ⟨by decide, by decide⟩, ⟨by decide, by decide⟩⟩
structure RS (b5 b6 b7 B : Nat) (w : World) (s : PSt) (frl : List Rf) (tl : List Bool) : Prop where
 out : ∃ Ap cp An cn, Blk w b5 54 (told Ap s.pts.length cp An s.nds.length cn s.root 0).toArray ∧ PrO 102 5 1 By w B Ap cp s.pts ∧ PrO 61 25 34 Rc w B An cn s.nds
 fr : Blk w b6 25 (Rc frl).toArray
 tn : Blk w b7 4 (tl.map Value.bool).toArray
section
variable {b5 b6 b7 B : Nat} {w w' : World} {s : PSt} {frl : List Rf} {tl : List Bool} {i : Nat}
theorem RS.ext (h : RS b5 b6 b7 B w s frl tl) (hm : Ext w w') : RS b5 b6 b7 B w' s frl tl := by
 obtain ⟨⟨Ap, cp, An, cn, h1, h2, h3⟩, h4, h5⟩ := h
 exact ⟨⟨Ap, cp, An, cn, h1.ext hm, h2.ext hm, h3.ext hm⟩, h4.ext hm, h5.ext hm⟩
abbrev RMod (b5 b6 b7 : Nat) (w w' : World) : Prop := Mod (fun j => j = b5 ∨ j = b6 ∨ j = b7) w w'
theorem RS.put (h : RS b5 b6 b7 B w s frl tl) (hB : B ≤ w.heap.size) (h5 : b5 < B) (h6 : b6 < B) (h7 : b7 < B) (few : s.pts.length ≤ 10000) {n : Int} {x : List Int} {A4 : Option Addr} {c4 : Nat} (hl : x.length = 256) (hx : Own w B 5 1 A4 256 c4 (By x)) {K : World → Prop}
  (hK : ∀ w', RS b5 b6 b7 B w' ⟨s.rows, s.root, s.pts ++ [(n, x)], s.nds⟩ frl tl → Mod (fun j => j = b5 ∨ (B ≤ j ∧ TyB w j 102)) w w' → K w') :
  ∃ (A23 : Option Addr) (n23 : Nat) (c23 : Nat), w.cell? ⟨b5, 0, none⟩ = some (.slice A23 n23 c23) ∧
   ∀ b10 w25, b10 = w.heap.size → w25 = w.alloc (.cells ([.int .i64 n, .slice A4 256 c4] : List Value).toArray 102) →
   ∃ l1 l2 : List Value, (n23 + 1) * 32 ≤ 140737488355328 ∧ l1.length = n23 * 2 ∧ RdS w25 A23 l1 ∧ l2.length = 1 * 2 ∧ RdS w25 (some ⟨b10, 0, none⟩) l2 ∧ One l2 ∧ (n23 + 1 ≤ c23 → Room w25 A23 (n23 * 2) (1 * 2)) ∧
   ∀ A24 c24 w26, Appended w25 102 2 ([.int .i64 0, .slice none 0 0] : List Value).toArray A23 n23 c23 1 l1 l2 A24 c24 w26 →
   (w26.cell? ⟨b5, 0, none⟩).isSome = true ∧ w26.frozen? ⟨b5, 0, none⟩ = false ∧
   ∀ w27, w27 = w26.setCell ⟨b5, 0, none⟩ (.slice A24 (n23 + 1) c24) → K w27 := by
 obtain ⟨⟨Ap, cp, An, cn, h1, h2, h3⟩, h4, h8⟩ := h
 refine ⟨Ap, _, cp, by rw [h1.cell]; rfl, fun b10 w25 e1 e2 => ?_⟩
 refine h2.push (x := (n, x)) hB rfl e1 e2 hl hx (by decide) rfl (by omega) (by decide) fun A24 c24 w26 p26 m26 => ?_
 have hB26 := h1.mod m26 fun ⟨hh, _⟩ => by omega
 refine ⟨by rw [hB26.cell]; rfl, hB26.frozen _, fun w27 e27 => ?_⟩
 have e5 : told Ap s.pts.length cp An s.nds.length cn s.root 0 = [] ++ ([.slice Ap s.pts.length cp] : List Value) ++ (([.slice An s.nds.length cn] : List Value) ++ s.root.cells ++ ([.int .i64 0] : List Value)) := by simp [told, Rf.cells]
 rw [e5] at hB26
 obtain ⟨_, hs⟩ := hB26.setMid (b' := [.slice A24 (s.pts.length + 1) c24]) (n := 0) rfl rfl
 obtain ⟨h27, m27⟩ := hs w27 (by rw [e27]; rfl)
 have mall : Mod (fun j => j = b5 ∨ (B ≤ j ∧ TyB w j 102)) w w27 := (m26.mono fun _ _ hh => .inr hh).then m27 fun _ _ hh => .inl hh
 refine hK w27 ⟨⟨A24, c24, An, cn, ?_, p26.mod m27 fun j hj _ e => by omega, ?_⟩, h4.mod mall ?_, h8.mod mall ?_⟩ mall
 ·have : told A24 (s.pts ++ [(n, x)]).length c24 An s.nds.length cn s.root 0 = [] ++ ([.slice A24 (s.pts.length + 1) c24] : List Value) ++ (([.slice An s.nds.length cn] : List Value) ++ s.root.cells ++ ([.int .i64 0] : List Value)) := by simp [told, Rf.cells]
  show Blk w27 b5 _ (told A24 (s.pts ++ [(n, x)]).length c24 An s.nds.length cn s.root 0).toArray
  rw [this]; exact h27
 ·refine h3.mod mall ?_
  rintro j hj ht (hh | ⟨_, hh⟩)
  ·omega
  ·rcases ht with ht | ht <;> exact absurd (TyB.uniq ht hh) (by decide)
 ·rintro (hh | ⟨hh, _⟩)
  ·subst hh; exact absurd (TyB.uniq ⟨_, h1⟩ ⟨_, h4⟩) (by decide)
  ·omega
 ·rintro (hh | ⟨hh, _⟩)
  ·subst hh; exact absurd (TyB.uniq ⟨_, h1⟩ ⟨_, h8⟩) (by decide)
  ·omega
theorem RS.node (h : RS b5 b6 b7 B w s frl tl) (hB : B ≤ w.heap.size) (h5 : b5 < B) (h6 : b6 < B) (h7 : b7 < B) (few : s.nds.length ≤ 10000) {u : Nat} {rs : List Rf} {m : Nat} {A4 : Option Addr} {c4 : Nat} (hl : rs.length = m) (hx : Own w B 25 34 A4 m c4 (Rc rs)) {K : World → Prop}
  (hK : ∀ w', RS b5 b6 b7 B w' ⟨s.rows, s.root, s.pts, s.nds ++ [(((u : Nat) : Int), rs)]⟩ frl tl → Mod (fun j => j = b5 ∨ (B ≤ j ∧ TyB w j 61)) w w' → K w') :
  ∃ (A23 : Option Addr) (n23 : Nat) (c23 : Nat), w.cell? ⟨b5, 1, none⟩ = some (.slice A23 n23 c23) ∧
   ∀ b10 w25, b10 = w.heap.size → w25 = w.alloc (.cells ([.int .i64 ((u : Nat) : Int), .slice A4 m c4] : List Value).toArray 61) →
   ∃ l1 l2 : List Value, (n23 + 1) * 32 ≤ 140737488355328 ∧ l1.length = n23 * 2 ∧ RdS w25 A23 l1 ∧ l2.length = 1 * 2 ∧ RdS w25 (some ⟨b10, 0, none⟩) l2 ∧ One l2 ∧ (n23 + 1 ≤ c23 → Room w25 A23 (n23 * 2) (1 * 2)) ∧
   ∀ A24 c24 w26, Appended w25 61 2 ([.int .i64 0, .slice none 0 0] : List Value).toArray A23 n23 c23 1 l1 l2 A24 c24 w26 →
   (w26.cell? ⟨b5, 1, none⟩).isSome = true ∧ w26.frozen? ⟨b5, 1, none⟩ = false ∧
   ∀ w27, w27 = w26.setCell ⟨b5, 1, none⟩ (.slice A24 (n23 + 1) c24) → K w27 := by
 obtain ⟨⟨Ap, cp, An, cn, h1, h2, h3⟩, h4, h8⟩ := h
 refine ⟨An, _, cn, by rw [h1.cell]; rfl, fun b10 w25 e1 e2 => ?_⟩
 refine h3.push (x := (((u : Nat) : Int), rs)) hB rfl e1 e2 hl hx (by decide) rfl (by omega) (by decide) fun A24 c24 w26 p26 m26 => ?_
 have hB26 := h1.mod m26 fun ⟨hh, _⟩ => by omega
 refine ⟨by rw [hB26.cell]; rfl, hB26.frozen _, fun w27 e27 => ?_⟩
 have e5 : told Ap s.pts.length cp An s.nds.length cn s.root 0 = ([.slice Ap s.pts.length cp] : List Value) ++ ([.slice An s.nds.length cn] : List Value) ++ (s.root.cells ++ ([.int .i64 0] : List Value)) := by simp [told, Rf.cells]
 rw [e5] at hB26
 obtain ⟨_, hs⟩ := hB26.setMid (b' := [.slice A24 (s.nds.length + 1) c24]) (n := 1) rfl rfl
 obtain ⟨h27, m27⟩ := hs w27 (by rw [e27]; rfl)
 have mall : Mod (fun j => j = b5 ∨ (B ≤ j ∧ TyB w j 61)) w w27 := (m26.mono fun _ _ hh => .inr hh).then m27 fun _ _ hh => .inl hh
 refine hK w27 ⟨⟨Ap, cp, A24, c24, ?_, ?_, p26.mod m27 fun j hj _ e => by omega⟩, h4.mod mall ?_, h8.mod mall ?_⟩ mall
 ·have : told Ap s.pts.length cp A24 (s.nds ++ [(((u : Nat) : Int), rs)]).length c24 s.root 0 = ([.slice Ap s.pts.length cp] : List Value) ++ ([.slice A24 (s.nds.length + 1) c24] : List Value) ++ (s.root.cells ++ ([.int .i64 0] : List Value)) := by simp [told, Rf.cells]
  show Blk w27 b5 _ (told Ap s.pts.length cp A24 (s.nds ++ [(((u : Nat) : Int), rs)]).length c24 s.root 0).toArray
  rw [this]; exact h27
 ·refine h2.mod mall ?_
  rintro j hj ht (hh | ⟨_, hh⟩)
  ·omega
  ·rcases ht with ht | ht <;> exact absurd (TyB.uniq ht hh) (by decide)
 ·rintro (hh | ⟨hh, _⟩)
  ·subst hh; exact absurd (TyB.uniq ⟨_, h1⟩ ⟨_, h4⟩) (by decide)
  ·omega
 ·rintro (hh | ⟨hh, _⟩)
  ·subst hh; exact absurd (TyB.uniq ⟨_, h1⟩ ⟨_, h8⟩) (by decide)
  ·omega
theorem RS.fresh (h : RS b5 b6 b7 B w s frl tl) (h6 : b6 < B) (hi : i < frl.length) (hok : RsOk frl) {r : Rf} (hr : r.Ok) :
  w.there b6 (0 + ((i : Int)).toNat * 34) 34 ∧ ∀ w', w' = w.setCells b6 (0 + ((i : Int)).toNat * 34) r.cells → RS b5 b6 b7 B w' s (frl.set i r) tl ∧ Mod (fun j => j = b6) w w' := by
 obtain ⟨⟨Ap, cp, An, cn, h1, h2, h3⟩, h4, h8⟩ := h
 rw [Nat.zero_add, Int.toNat_natCast]
 have hrl := hr.clen
 have hl := Rc_length hok
 refine ⟨h4.there (by simp; omega), fun w' e => ?_⟩
 have hs := Blk.sets (t := 25) r.cells (i * 34) w _ h4 (by omega)
 rw [← e, Rc_set r hok hi hrl] at hs
 have m : Mod (fun j => j = b6) w w' := (Mod.refl _ _).sets (.inr rfl) e
 refine ⟨⟨⟨Ap, cp, An, cn, h1.mod m ?_, h2.mod m fun j hj _ e => by omega, h3.mod m fun j hj _ e => by omega⟩, hs, h8.mod m ?_⟩, m⟩
 ·intro hh; subst hh; exact absurd (TyB.uniq ⟨_, h1⟩ ⟨_, h4⟩) (by decide)
 ·intro hh; subst hh; exact absurd (TyB.uniq ⟨_, h8⟩ ⟨_, h4⟩) (by decide)
theorem RS.turned (h : RS b5 b6 b7 B w s frl tl) (h7 : b7 < B) (hi : i < tl.length) :
  (w.cell? ⟨b7, (0 + ((i : Int)).toNat * 1), none⟩).isSome = true ∧ w.frozen? ⟨b7, (0 + ((i : Int)).toNat * 1), none⟩ = false ∧ ∀ w', w' = w.setCell ⟨b7, (0 + ((i : Int)).toNat * 1), none⟩ (.bool true) → RS b5 b6 b7 B w' s frl (tl.set i true) ∧ Mod (fun j => j = b7) w w' := by
 obtain ⟨⟨Ap, cp, An, cn, h1, h2, h3⟩, h4, h8⟩ := h
 rw [Nat.zero_add, Int.toNat_natCast, Nat.mul_one]
 refine ⟨by rw [h8.cell, List.getElem?_toArray, List.getElem?_map, List.getElem?_eq_getElem hi]; rfl, h8.frozen _, fun w' e => ?_⟩
 have hs := h8.set e
 rw [List.setIfInBounds_toArray, ← List.map_set] at hs
 have m : Mod (fun j => j = b7) w w' := (Mod.refl _ _).set (.inr rfl) e
 refine ⟨⟨⟨Ap, cp, An, cn, h1.mod m ?_, h2.mod m fun j hj _ e => by omega, h3.mod m fun j hj _ e => by omega⟩, h4.mod m ?_, hs⟩, m⟩
 ·intro hh; subst hh; exact absurd (TyB.uniq ⟨_, h1⟩ ⟨_, h8⟩) (by decide)
 ·intro hh; subst hh; exact absurd (TyB.uniq ⟨_, h4⟩ ⟨_, h8⟩) (by decide)
theorem RS.rooted (h : RS b5 b6 b7 B w s frl tl) (h5 : b5 < B) (hs0 : s.root.Ok) {r : Rf} (hr : r.Ok) :
  w.there b5 2 34 ∧ ∀ w', w' = w.setCells b5 2 r.cells → RS b5 b6 b7 B w' ⟨s.rows, r, s.pts, s.nds⟩ frl tl ∧ Mod (fun j => j = b5) w w' := by
 obtain ⟨⟨Ap, cp, An, cn, h1, h2, h3⟩, h4, h8⟩ := h
 rw [told_mid] at h1
 obtain ⟨g1, g2⟩ := h1.setMid (b' := r.cells) (n := 2) rfl (by rw [hr.clen, hs0.clen])
 rw [hr.clen] at g1
 refine ⟨g1, fun w' e => ?_⟩
 obtain ⟨g3, m⟩ := g2 w' e
 refine ⟨⟨⟨Ap, cp, An, cn, ?_, h2.mod m fun j hj _ e => by omega, h3.mod m fun j hj _ e => by omega⟩, h4.mod m ?_, h8.mod m ?_⟩, m⟩
 ·show Blk w' b5 _ (told Ap s.pts.length cp An s.nds.length cn r 0).toArray
  rw [told_mid]; exact g3
 ·intro hh; subst hh; exact absurd (TyB.uniq ⟨_, h1⟩ ⟨_, h4⟩) (by decide)
 ·intro hh; subst hh; exact absurd (TyB.uniq ⟨_, h1⟩ ⟨_, h8⟩) (by decide)
end
end Go.Proofs.YtpkfdhlkknanmaaGreat
