/-
 The cipher: a quarter round, and a quarter round at four words of sixteen.
-/
import Derived.Test.YtpkfdhlkknanmaaGreatSha7
import Derived.Test.YtpkfdhlkknanmaaGreatW2
set_option linter.all false
namespace Go.Proofs.YtpkfdhlkknanmaaGreat
open Go Go.RowKit Go.Proofs
def Words (l : List Int) : Prop := ∀ x ∈ l, R32 x
theorem Words.getD {l : List Int} (h : Words l) (i : Nat) : R32 (l.getD i 0) := by
 rw [List.getD_eq_getElem?_getD]
 cases hi : l[i]? with
 | none => exact ⟨by decide, by decide⟩
 | some x => exact h x (List.mem_of_getElem? hi)
theorem mem_set_or {α : Type} {l : List α} {i : Nat} {a b : α} (h : b ∈ l.set i a) : b = a ∨ b ∈ l := by
 rcases List.mem_or_eq_of_mem_set h with h | h
 ·exact .inr h
 ·exact .inl h
theorem Words.set {l : List Int} (h : Words l) {i : Nat} {x : Int} (hx : R32 x) : Words (l.set i x) := fun y hy => by
 rcases mem_set_or hy with rfl | hy
 ·exact hx
 ·exact h y hy
theorem getD_get {l : List Int} {i : Nat} (h : i < l.length) : l[i]? = some (l.getD i 0) := by
 rw [List.getD_eq_getElem?_getD, List.getElem?_eq_getElem h]; rfl
def addq (l : List Int) (x y z n : Nat) : List Int := (l.set x (IntKind.u32.wrap (l.getD x 0 + l.getD y 0))).set z (rotl n (bXor .u32 (l.getD z 0) (IntKind.u32.wrap (l.getD x 0 + l.getD y 0))))
theorem addq_length (l : List Int) (x y z n : Nat) : (addq l x y z n).length = l.length := by simp [addq]
theorem addq_words {l : List Int} (h : Words l) {x y z n : Nat} (hn : n < 32) : Words (addq l x y z n) := (h.set (R32_wrap _)).set (R32_rotl hn (R32_xor _ _))
def qrnd (a b c d : Int) : List Int := addq (addq (addq (addq [a, b, c, d] 0 1 3 16) 2 3 1 12) 0 1 3 8) 2 3 1 7
theorem qr_words {a b c d : Int} (ha : R32 a) (hb : R32 b) (hc : R32 c) (hd : R32 d) : Words (qrnd a b c d) := by
 refine addq_words (addq_words (addq_words (addq_words ?_ (by decide)) (by decide)) (by decide)) (by decide)
 intro x hx
 simp only [List.mem_cons, List.not_mem_nil, or_false] at hx
 rcases hx with rfl | rfl | rfl | rfl <;> assumption
theorem rot_fact : ∀ n : Fin 32, bAnd .u64 (IntKind.u64.wrap ((n.val : Nat) : Int)) 31 = ((n.val : Nat) : Int) := by decide +kernel
theorem addq_ok {w : World} {b : Nat} {l : List Int} (hB : Blk w b 178 (Iv .u32 l).toArray) (hl : l.length = 4) (hw : Words l) {x y z n : Nat} (hx : x < 4) (hy : y < 4) (hz : z < 4) (hzx : z ≠ x) (hn : 1 ≤ n ∧ n < 32) :
  Ret Tryz.prog 117 #[.int .i64 x, .int .i64 y, .int .i64 z, .int .i64 n, .pointer (some ⟨b, 0, none⟩)] w fun v w' => v = .tuple #[] ∧ Blk w' b 178 (Iv .u32 (addq l x y z n)).toArray ∧ Mod (fun k => k = b) w w' := by
 refine L_117 x y z n (some ⟨b, 0, none⟩) w _ ?_
 intro w1 e1
 have m1 : Ext w w1 := (Mod.refl _ _).drew e1
 refine ⟨b, 0, rfl, by omega, by omega, _, hB.ldv (getD_get (by omega)), by omega, by omega, _, hB.ldv (getD_get (by omega)), by omega, by omega, (hB.ext m1).stv (by omega) fun w2 hB2 m2 => ?_⟩
 intro w3 e3
 have m3 : Ext w2 w3 := (Mod.refl _ _).drew e3
 have r1 : (l.set x (IntKind.u32.wrap (l.getD x 0 + l.getD y 0)))[z]? = some (l.getD z 0) := by rw [get_set (by omega), if_neg hzx]; exact getD_get (by omega)
 have r2 : (l.set x (IntKind.u32.wrap (l.getD x 0 + l.getD y 0)))[x]? = some (IntKind.u32.wrap (l.getD x 0 + l.getD y 0)) := by rw [get_set (by omega), if_pos rfl]
 refine ⟨by omega, by omega, _, hB2.ldv r1, by omega, by omega, _, hB2.ldv r2, ?_⟩
 refine (rotate_ok (R32_xor _ _) hn (rot_fact ⟨n, hn.2⟩)).mono ?_
 rintro v w4 ⟨rfl, rfl⟩
 refine ⟨_, rfl, by omega, by omega, (hB2.ext m3).stv (by simp; omega) fun w5 hB5 m5 => ⟨rfl, hB5, ?_⟩⟩
 exact (((Mod.of_ext m1).trans m2).ext m3).trans m5
theorem quarter_ok {w : World} {a b c d : Int} (ha : R32 a) (hb : R32 b) (hc : R32 c) (hd : R32 d) :
  Ret Tryz.prog 109 #[.agg (Iv .u32 [a, b, c, d]).toArray] w fun v w' => v = .agg (Iv .u32 (qrnd a b c d)).toArray ∧ Ext w w' := by
 refine L_109 a b c d w _ ?_
 intro b1 w1 e1 e2 b2 w2 e3 e4
 have m1 : Ext w w1 := (Mod.refl _ _).alloc e2
 have m2 : Ext w1 w2 := (Mod.refl _ _).alloc e4
 have s1 := m1.size
 have t1 : b1 < w1.heap.size := by rw [e2, e1]; simp
 have hB1 : Blk w2 b1 178 (Iv .u32 [a, b, c, d]).toArray := (Blk.new e1 e2).ext m2
 have hB2 : Blk w2 b2 178 ([.int .u32 0, .int .u32 0, .int .u32 0, .int .u32 0] : List Value).toArray := Blk.new e3 e4
 have hw : Words [a, b, c, d] := by
  intro x hx
  simp only [List.mem_cons, List.not_mem_nil, or_false] at hx
  rcases hx with rfl | rfl | rfl | rfl <;> assumption
 refine (addq_ok hB1 rfl hw (x := 0) (y := 1) (z := 3) (n := 16) (by decide) (by decide) (by decide) (by decide) (by decide)).mono ?_
 rintro v w3 ⟨rfl, h3, m3⟩
 refine ⟨rfl, (addq_ok h3 (addq_length ..) (addq_words hw (by decide)) (x := 2) (y := 3) (z := 1) (n := 12) (by decide) (by decide) (by decide) (by decide) (by decide)).mono ?_⟩
 rintro v w4 ⟨rfl, h4, m4⟩
 refine ⟨rfl, (addq_ok h4 (by rw [addq_length, addq_length]; rfl) (addq_words (addq_words hw (by decide)) (by decide)) (x := 0) (y := 1) (z := 3) (n := 8) (by decide) (by decide) (by decide) (by decide) (by decide)).mono ?_⟩
 rintro v w5 ⟨rfl, h5, m5⟩
 refine ⟨rfl, (addq_ok h5 (by rw [addq_length, addq_length, addq_length]; rfl) (addq_words (addq_words (addq_words hw (by decide)) (by decide)) (by decide)) (x := 2) (y := 3) (z := 1) (n := 7) (by decide) (by decide) (by decide) (by decide) (by decide)).mono ?_⟩
 rintro v w6 ⟨rfl, h6, m6⟩
 have mm : Mod (fun k => k = b1) w2 w6 := ((m3.trans m4).trans m5).trans m6
 have h6' : Blk w6 b1 178 (Iv .u32 (qrnd a b c d)).toArray := h6
 refine ⟨rfl, _, _, _, _, h6'.range_all, lay_ok (hB2.mod mm (by omega)) (by rfl) (by rfl) fun w7 h7 m7 => ⟨_, _, _, _, h7.range_all, rfl, ?_⟩⟩
 exact Fro.ext (((Mod.of_ext (m1.trans m2)).trans (mm.mono fun k hk e => by omega)).trans (m7.mono fun k hk e => by omega))
theorem left_ok {w : World} {x : Int} {n : Nat} (hx : R32 x) (hn : n < 32) : Ret Tryz.prog 122 #[.int .u32 x, .int .i64 n] w fun v w' => v = .int .u32 (rotl n x) ∧ w' = w := by
 refine L_122 x n w _ ?_
 refine ⟨fun x3 x4 w1 => w1 = w ∧ ∃ i : Nat, x4 = i ∧ i ≤ n ∧ x3 = rotl i x, fun _ x4 _ => (n - x4).toNat, ⟨rfl, 0, rfl, by omega, (rotl_zero hx).symm⟩, ?_⟩
 rintro x3 x4 w1 ⟨rfl, i, rfl, hi, rfl⟩
 refine ⟨fun hlt => ?_, fun hge => ?_⟩
 ·have q3 : IntKind.i64.wrap ((i : Int) + 1) = ((i + 1 : Nat) : Int) := wrap_i64 (by omega) (by omega)
  rw [q3]
  exact ⟨⟨rfl, i + 1, rfl, by omega, (rotl_succ (by omega) hx).symm⟩, by dsimp only; omega⟩
 ·obtain rfl : i = n := by omega
  exact ⟨rfl, rfl⟩
theorem refquarter_ok {w : World} {a b c d : Int} (ha : R32 a) (hb : R32 b) (hc : R32 c) (hd : R32 d) :
  Ret Tryz.prog 114 #[.agg (Iv .u32 [a, b, c, d]).toArray] w fun v w' => v = .agg (Iv .u32 (qrnd a b c d)).toArray ∧ Ext w w' := by
 refine L_114 a b c d w _ ?_
 intro b1 w1 e1 e2 b2 w2 e3 e4 w3 e5
 have m1 : Ext w w1 := (Mod.refl _ _).alloc e2
 have m2 : Ext w1 w2 := (Mod.refl _ _).alloc e4
 have m3 : Ext w2 w3 := (Mod.refl _ _).drew e5
 have s1 := m1.size
 have hB1 : Blk w2 b1 178 (Iv .u32 [a, b, c, d]).toArray := (Blk.new e1 e2).ext m2
 have hB2 : Blk w3 b2 178 ([.int .u32 0, .int .u32 0, .int .u32 0, .int .u32 0] : List Value).toArray := (Blk.new e3 e4).ext m3
 refine ⟨_, hB1.ldc (i := 0) rfl, _, hB1.ldc (i := 1) rfl, _, hB1.ldc (i := 2) rfl, _, hB1.ldc (i := 3) rfl, ?_⟩
 refine (left_ok (n := 16) (R32_xor _ _) (by decide)).mono ?_
 rintro v w4 ⟨rfl, rfl⟩
 refine ⟨_, rfl, (left_ok (n := 12) (R32_xor _ _) (by decide)).mono ?_⟩
 rintro v w5 ⟨rfl, rfl⟩
 refine ⟨_, rfl, (left_ok (n := 8) (R32_xor _ _) (by decide)).mono ?_⟩
 rintro v w6 ⟨rfl, rfl⟩
 refine ⟨_, rfl, (left_ok (n := 7) (R32_xor _ _) (by decide)).mono ?_⟩
 rintro v w7 ⟨rfl, rfl⟩
 refine ⟨_, rfl, lay_ok hB2 (by rfl) (by rfl) fun w8 h8 m8 => ⟨_, _, _, _, h8.range_all, rfl, ?_⟩⟩
 exact Fro.ext ((Mod.of_ext ((m1.trans m2).trans m3)).trans (m8.mono fun k hk e => by omega))
def tAt (l : List Int) (i j k m : Nat) : List Int :=
 (((l.set i ((qrnd (l.getD i 0) (l.getD j 0) (l.getD k 0) (l.getD m 0)).getD 0 0)).set j ((qrnd (l.getD i 0) (l.getD j 0) (l.getD k 0) (l.getD m 0)).getD 1 0)).set k ((qrnd (l.getD i 0) (l.getD j 0) (l.getD k 0) (l.getD m 0)).getD 2 0)).set m ((qrnd (l.getD i 0) (l.getD j 0) (l.getD k 0) (l.getD m 0)).getD 3 0)
theorem tAt_length (l : List Int) (i j k m : Nat) : (tAt l i j k m).length = l.length := by simp [tAt]
theorem tAt_words {l : List Int} (h : Words l) (i j k m : Nat) : Words (tAt l i j k m) := by
 have hq := qr_words (h.getD i) (h.getD j) (h.getD k) (h.getD m)
 exact (((h.set (hq.getD 0)).set (hq.getD 1)).set (hq.getD 2)).set (hq.getD 3)
theorem turnat_ok {w : World} {g : Nat} {l : List Int} (hB : Blk w g 176 (Iv .u32 l).toArray) (hl : l.length = 16) (hw : Words l) {i j k m : Nat} (hi : i < 16) (hj : j < 16) (hk : k < 16) (hm : m < 16) :
  Ret Tryz.prog 108 #[.int .i64 i, .int .i64 j, .int .i64 k, .int .i64 m, .pointer (some ⟨g, 0, none⟩)] w fun v w' => v = .tuple #[] ∧ Blk w' g 176 (Iv .u32 (tAt l i j k m)).toArray ∧ Mod (fun n => n = g) w w' := by
 refine L_108 i j k m (some ⟨g, 0, none⟩) w _ ?_
 have tg := hB.lt
 refine ⟨fun p w1 => ∃ bF, p = some ⟨bF, 0, none⟩ ∧ bF ≠ g ∧ Blk w1 bF 178 (Iv .u32 (qrnd (l.getD i 0) (l.getD j 0) (l.getD k 0) (l.getD m 0))).toArray ∧ Blk w1 g 176 (Iv .u32 l).toArray ∧ Ext w w1, ?_, ?_⟩
 ·rintro p w1 ⟨bF, rfl, hne, hq, hB1, m1⟩
  have tq := hq.lt
  refine ⟨bF, 0, rfl, ?_⟩
  intro w2 e2
  have m2 : Ext w1 w2 := (Mod.refl _ _).drew e2
  have kb : ∀ {w' : World}, Mod (fun n => n = g) w1 w' → KeepB [bF] w1 w' := fun hm => hm.keepB fun n hn => by
   simp only [List.mem_singleton] at hn; subst hn; exact ⟨tq, hne⟩
  refine ⟨_, hq.ldc (i := 0) rfl, _, hq.ldc (i := 1) rfl, _, hq.ldc (i := 2) rfl, _, hq.ldc (i := 3) rfl, g, 0, rfl, by omega, by omega, (hB1.ext m2).stv (by omega) fun w3 h3 m3 => ?_⟩
  have a3 : Mod (fun n => n = g) w1 w3 := (Mod.of_ext m2).trans m3
  refine ⟨kb a3, by omega, by omega, h3.stv (by simp; omega) fun w4 h4 m4 => ⟨kb (a3.trans m4), by omega, by omega, h4.stv (by simp; omega) fun w5 h5 m5 => ⟨kb ((a3.trans m4).trans m5), by omega, by omega, h5.stv (by simp; omega) fun w6 h6 m6 => ⟨rfl, h6, (Mod.of_ext m1).trans (((a3.trans m4).trans m5).trans m6)⟩⟩⟩⟩
 ·intro w7 e7
  have m7 : Ext w w7 := (Mod.refl _ _).drew e7
  have s7 := m7.size
  refine ⟨g, 0, rfl, by omega, by omega, _, hB.ldv (getD_get (by omega)), by omega, by omega, _, hB.ldv (getD_get (by omega)), by omega, by omega, _, hB.ldv (getD_get (by omega)), by omega, by omega, _, hB.ldv (getD_get (by omega)), ?_⟩
  intro wp mp fp
  refine (quarter_ok (hw.getD i) (hw.getD j) (hw.getD k) (hw.getD m)).mono ?_
  rintro v wq ⟨rfl, mq⟩
  refine ⟨_, _, _, _, rfl, mq.keepFl (fun _ _ _ => id), ?_⟩
  intro bF wz mz fz
  obtain ⟨_, _, hf⟩ := fz
  obtain ⟨hbF, hn0, _⟩ := hf _ (List.mem_singleton.2 rfl)
  simp only at hbF hn0
  refine lay_ok hbF (by rfl) (by rfl) fun w8 h8 m8 => ⟨bF, rfl, by omega, h8, ?_, ?_⟩
  ·exact ((((hB.ext m7).ext mp).ext mq).ext mz).mod m8 (by omega)
  ·have a : Ext w wz := ((m7.trans mp).trans mq).trans mz
   exact Fro.ext ((Mod.of_ext a).trans (m8.mono fun n hn e => by omega))
end Go.Proofs.YtpkfdhlkknanmaaGreat
