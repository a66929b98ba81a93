/-
 The law CommitPlans, walked.
-/
import Derived.Test.YtpkfdhlkknanmaaGreatCLaw3
set_option linter.all false
namespace Go.Proofs.YtpkfdhlkknanmaaGreat
open Go Go.RowKit Go.Proofs
def Res (P : Nat) (key : List Int) (e : Int) (l : List (Int × List Rf)) (root : Rf) (cs : List (Int × List Int)) (pts : List (Int × List Int)) (nds : List (Int × List Rf)) (rt : Rf) (er : Int) : Prop :=
 (¬ (MayN P l cs ∧ PlOk root) ∧ pts = [] ∧ nds = [] ∧ rt = rf0 ∧ er = 1) ∨
 ((MayN P l cs ∧ PlOk root) ∧ pts = (planF P key e l root cs).pts ∧ nds = (planF P key e l root cs).nds ∧ rt = (planF P key e l root cs).root ∧ er = 0)
theorem Res.uniq {P : Nat} {key : List Int} {e : Int} {l : List (Int × List Rf)} {root : Rf} {cs pts pts' : List (Int × List Int)} {nds nds' : List (Int × List Rf)} {rt rt' : Rf} {er er' : Int}
  (h : Res P key e l root cs pts nds rt er) (h' : Res P key e l root cs pts' nds' rt' er') : pts' = pts ∧ nds' = nds ∧ rt' = rt ∧ er' = er := by
 rcases h with ⟨h, rfl, rfl, rfl, rfl⟩ | ⟨h, rfl, rfl, rfl, rfl⟩ <;> rcases h' with ⟨h', rfl, rfl, rfl, rfl⟩ | ⟨h', rfl, rfl, rfl, rfl⟩
 ·exact ⟨rfl, rfl, rfl, rfl⟩
 ·exact absurd h' h
 ·exact absurd h h'
 ·exact ⟨rfl, rfl, rfl, rfl⟩
theorem hid_pts {P : Nat} {key : List Int} {e : Int} {s : PSt} {i : Nat} {page : List Int} (h : ∀ x ∈ s.pts, x.2.length ≤ 256) (hp : page.length ≤ 256) : ∀ x ∈ (hid P key e s i page).pts, x.2.length ≤ 256 := by
 intro x hx
 have hx' : x ∈ s.pts ++ [(blkOf i (wasOf P s.rows s.root i), sealB key e (blkOf i (wasOf P s.rows s.root i)) page)] := hx
 rcases List.mem_append.1 hx' with hx' | hx'
 ·exact h x hx'
 ·rw [List.mem_singleton] at hx'
  subst hx'
  show (sealB _ _ _ page).length ≤ 256
  rw [sealB_length]; exact hp
section
variable {P : Nat} {key : List Int} {e : Int} {l : List (Int × List Rf)} {root : Rf} {cs : List (Int × List Int)}
theorem pts_ok (hP : 1 ≤ P ∧ P ≤ 216) (he : R32 e) (hm : MayN P l cs) (hok : NdOk l) (hr : root.Ok) (hp : PlOk root) : (planF P key e l root cs).pts.length ≤ cs.length + 260 ∧ ∀ x ∈ (planF P key e l root cs).pts, x.2.length ≤ 256 := by
 constructor
 ·obtain ⟨_, h2, _⟩ := sokN (key := key) hP he hm hok hr hp _ (Nat.le_refl _)
  rw [planN_all] at h2
  have := need_len hP (pgs cs)
  omega
 ·have h1 : ∀ i, i ≤ cs.length → ∀ x ∈ ((cs.take i).foldl (stepC P key e) (plan0 l root)).pts, x.2.length ≤ 256 := by
   intro i
   induction i with
   | zero => intro _ x hx; exact absurd (show x ∈ ([] : List (Int × List Int)) from hx) (by simp)
   | succ i ih =>
    intro hi
    obtain ⟨c, hc⟩ : ∃ c, cs[i]? = some c := ⟨_, List.getElem?_eq_getElem (by omega)⟩
    rw [planC_snoc hc]
    exact hid_pts (ih (by omega)) (by have := (hm.ch i c hc).2.2.1; omega)
  have h2 : ∀ i, i ≤ (needN P (pgs cs)).length → ∀ x ∈ (planN P key e l root cs i).pts, x.2.length ≤ 256 := by
   intro i
   induction i with
   | zero =>
    intro _
    have := h1 cs.length (Nat.le_refl _)
    rw [planC_all] at this
    exact this
   | succ i ih =>
    intro hi
    obtain ⟨u, hu⟩ : ∃ u, (needN P (pgs cs))[i]? = some u := ⟨_, List.getElem?_eq_getElem (by omega)⟩
    obtain ⟨k1, _, _⟩ := sokN (key := key) hP he hm hok hr hp i (by omega)
    rw [planN_snoc hu]
    obtain ⟨g1, g2, _⟩ := k1.len u (List.mem_of_getElem? hu)
    exact hid_pts (s := ⟨_, _, _, _⟩) (ih (by omega)) (by rw [nodeL_length g2 (by rw [g1]; exact kidC_le P u)]; omega)
  rw [← planN_all]
  exact h2 _ (Nat.le_refl _)
end
section
variable {w : World} {x e : Int} {key : List Int} {root : Rf} {A1 A2 : Option Addr} {n1 c1 n2 c2 : Nat} {l : List (Int × List Rf)} {cs : List (Int × List Int)}
set_option maxHeartbeats 8000000 in
theorem law_ok (hx : R8 x) (hk : KeyOk key) (he : R32 e) (hroot : root.Ok) (hn : PrS Rc w A1 l) (hl : l.length = n1) (hok : ∀ y ∈ l, RsOk y.2) (hc : PrS By w A2 cs) (hcl : cs.length = n2) :
  Ret Tryz.prog 3 #[.agg (([.int .u8 x] : List Value) ++ By key ++ ([.int .u32 e, .int .i64 root.p, .int .u32 root.e] : List Value) ++ By root.d).toArray, .slice A1 n1 c1, .slice A2 n2 c2] w fun v w' => v = .bool true ∧ Ext w w' := by
 refine L_3 x (By key) e root.p root.e (By root.d) A1 n1 c1 A2 n2 c2 w _ (by simp [hk.len]) (by simp [hroot.len]) ?_
 intro b1 w1 e1 e1'
 have B1 : Blk w1 b1 27 (([.int .u8 x] : List Value) ++ By key ++ ([.int .u32 e, .int .i64 root.p, .int .u32 root.e] : List Value) ++ By root.d).toArray := Blk.new e1 e1'
 have m1 : Ext w w1 := (Mod.refl _ _).alloc e1'
 have hkey : ∀ w', Blk w' b1 27 (([.int .u8 x] : List Value) ++ By key ++ ([.int .u32 e, .int .i64 root.p, .int .u32 root.e] : List Value) ++ By root.d).toArray → w'.rangeAt b1 1 (By key) := fun w' h => by
  have e : ([.int .u8 x] : List Value) ++ By key ++ ([.int .u32 e, .int .i64 root.p, .int .u32 root.e] : List Value) ++ By root.d = ([.int .u8 x] : List Value) ++ By key ++ (([.int .u32 e, .int .i64 root.p, .int .u32 root.e] : List Value) ++ By root.d) := by simp [List.append_assoc]
  rw [e] at h
  exact h.mid rfl
 have hep : ∀ w', Blk w' b1 27 (([.int .u8 x] : List Value) ++ By key ++ ([.int .u32 e, .int .i64 root.p, .int .u32 root.e] : List Value) ++ By root.d).toArray → w'.cell? ⟨b1, 33, none⟩ = some (.int .u32 e) := fun w' h => by
  have e : ([.int .u8 x] : List Value) ++ By key ++ ([.int .u32 e, .int .i64 root.p, .int .u32 root.e] : List Value) ++ By root.d = (([.int .u8 x] : List Value) ++ By key) ++ ([.int .u32 e] : List Value) ++ (([.int .i64 root.p, .int .u32 root.e] : List Value) ++ By root.d) := by simp [List.append_assoc]
  rw [e] at h
  exact h.mid (by simp [hk.len]) 0 _ rfl
 have hrt : ∀ w', Blk w' b1 27 (([.int .u8 x] : List Value) ++ By key ++ ([.int .u32 e, .int .i64 root.p, .int .u32 root.e] : List Value) ++ By root.d).toArray → w'.rangeAt b1 34 (([.int .i64 root.p, .int .u32 root.e] : List Value) ++ By root.d) := fun w' h => by
  have e : ([.int .u8 x] : List Value) ++ By key ++ ([.int .u32 e, .int .i64 root.p, .int .u32 root.e] : List Value) ++ By root.d = (([.int .u8 x] : List Value) ++ By key ++ ([.int .u32 e] : List Value)) ++ (([.int .i64 root.p, .int .u32 root.e] : List Value) ++ By root.d) ++ [] := by simp [List.append_assoc]
  rw [e] at h
  exact h.mid (by simp [hk.len])
 have hx8 : 0 ≤ x ∧ x < 256 := ⟨hx.1, by have := hx.2; omega⟩
 have hw0 : IntKind.i64.wrap x = x := wrap_i64 (by omega) (by omega)
 have htm : 0 ≤ x.tmod 14 ∧ x.tmod 14 < 14 := ⟨Int.tmod_nonneg _ hx8.1, Int.tmod_lt_of_pos _ (by decide)⟩
 refine ⟨x, by rw [B1.cell]; rfl, ?_⟩
 rw [hw0]
 have hw1 : IntKind.i64.wrap (x.tmod 14 + 1) = x.tmod 14 + 1 := wrap_i64 (by omega) (by omega)
 rw [hw1]
 generalize hpg : x.tmod 14 + 1 = np at *
 refine (newshape_ok np).mono ?_
 rintro v w2 ⟨m2, ⟨hno, _⟩ | ⟨P, hP, A3, n3, c3, rfl, hsh⟩⟩
 ·exact absurd ⟨by omega, by omega⟩ hno
 have hPr : 1 ≤ P ∧ P ≤ 216 := hsh.ok
 refine ⟨A3, n3, c3, 0, rfl, fun b2 w3 e2 e2' => ?_⟩
 have B2 : Blk w3 b2 32 ([.slice none 0 0] : List Value).toArray := Blk.new e2 e2'
 have m3 : Ext w2 w3 := (Mod.refl _ _).alloc e2'
 refine lay_ok B2 (by rfl) (by rfl) fun w4 B24 m4' => ?_
 have m4 : Ext w2 w4 := Fro.ext ((Mod.of_ext m3).trans (m4'.mono fun j _ e => by omega))
 refine (refnew_ok np).mono ?_
 rintro v w5 ⟨m5, ⟨hno, _⟩ | ⟨P', hP', A4, n4, c4, A5, n5, c5, rfl, hshr⟩⟩
 ·exact absurd ⟨by omega, by omega⟩ hno
 obtain rfl : P' = P := by omega
 refine ⟨np, A4, n4, c4, A5, n5, c5, 0, rfl, fun b3 w6 e3 e3' => ?_⟩
 have B3 : Blk w6 b3 37 ([.int .i64 0, .slice none 0 0, .slice none 0 0] : List Value).toArray := Blk.new e3 e3'
 have m6 : Ext w5 w6 := (Mod.refl _ _).alloc e3'
 refine lay_ok B3 (by rfl) (by rfl) fun w7 B37 m7' => ?_
 have m7 : Ext w5 w7 := Fro.ext ((Mod.of_ext m6).trans (m7'.mono fun j _ e => by omega))
 have m17 := (m2.trans m4).trans (m5.trans m7)
 have m07 := m1.trans m17
 refine (far_ok (hn.ext m07) hl (hc.ext m07) hcl).mono ?_
 rintro v w8 ⟨m8, q, rfl, hq⟩
 have m08 := m07.trans m8
 refine ⟨q, rfl, fun _ => ⟨fun _ => (calive_ok w8).mono ?_, fun h => absurd rfl h⟩, fun hqf => ⟨fun h => absurd rfl h, fun _ => ?_⟩⟩
 ·rintro v w9 ⟨rfl, m9⟩
  exact ⟨true, rfl, rfl, m08.trans m9⟩
 obtain ⟨q1, q2, q3, q4⟩ := hq hqf
 have hnd : NdOk l := fun y hy => ⟨hok y hy, by have := q3 y hy; omega⟩
 refine (full_ok (hc.ext m08) hcl (by omega)).mono ?_
 rintro v w11 ⟨m11, A6, c6, rfl, hfull⟩
 have hfl : (cs.map fun c => (c.1, pad c.2)).length = n2 := by simp [hcl]
 generalize hcs2 : (cs.map fun c => (c.1, pad c.2)) = cs2 at *
 refine ⟨A6, n2, c6, rfl, fun b4 w12 e4 e4' => ?_⟩
 have B4 : Blk w12 b4 29 ([.slice A2 n2 c2, .slice A6 n2 c6] : List Value).toArray := Blk.new e4 e4'
 have m12 : Ext w11 w12 := (Mod.refl _ _).alloc e4'
 have m812 := m11.trans m12
 have m012 := m08.trans m812
 have hf12 := hfull.rd.ext m12
 have hc12 := hc.ext m012
 have B112 := B1.ext ((m17.trans m8).trans m812)
 have B212 := B24.ext (((m5.trans m7).trans m8).trans m812)
 have B312 := B37.ext (m8.trans m812)
 have hsh12 := hsh.ext ((m4.trans (m5.trans m7)).trans (m8.trans m812))
 have hshr12 := hshr.ext (m7.trans (m8.trans m812))
 refine ⟨fun y w13 => ∃ i : Nat, y = i ∧ i ≤ 2 ∧ Ext w12 w13, fun y _ => 2 - y.toNat, ⟨0, rfl, by omega, Mod.refl _ _⟩, ?_⟩
 rintro y w13 ⟨i, rfl, hi, m13⟩
 refine ⟨fun hlt => ?_, fun hge => ?_⟩
 ·have hpick : ∃ A7 c7 css, w13.cell? ⟨b4, (0 + ((i : Int)).toNat * 1), none⟩ = some (.slice A7 n2 c7) ∧ PrS By w13 A7 css ∧ css.length = n2 := by
   have hB := B4.ext m13
   have hi2 : i = 0 ∨ i = 1 := by omega
   rcases hi2 with rfl | rfl
   ·exact ⟨A2, c2, cs, by rw [hB.cell]; rfl, hc12.ext m13, hcl⟩
   ·exact ⟨A6, c6, cs2, by rw [hB.cell]; rfl, hf12.ext m13, hfl⟩
  obtain ⟨A7, c7, css, hcell, hcp, hcpl⟩ := hpick
  have m013 := m012.trans m13
  have hsmall : n2 ≤ 20 := by omega
  refine ⟨by omega, by omega, A7, n2, c7, hcell, fun A10 n10 c10 A11 n11 c11 p2 x11 w14 => Ext w13 w14 ∧ ∃ pts nds rt, Res P' key e l root css pts nds rt x11 ∧ n10 = pts.length ∧ n11 = nds.length ∧ PrS By w14 A10 pts ∧ PrS Rc w14 A11 nds ∧ rt.Ok ∧ (pts.length ≤ 1000 ∧ (∀ z ∈ pts, z.2.length ≤ 256) ∧ ∀ z ∈ nds, RsOk z.2 ∧ z.2.length ≤ 6) ∧ nds.length ≤ 300 ∧ ∃ bF, p2 = some ⟨bF, 0, none⟩ ∧ Blk w14 bF 46 rt.cells.toArray, ?_, ?_⟩
  ·rintro A10 n10 c10 A11 n11 c11 p2 x11 w14 ⟨m14, pts, nds, rt, hres, rfl, rfl, hp1, hp2, hrt1, ⟨hsz1, hsz2, hsz3⟩, hsz4, bF, rfl, hBF⟩
   have m1214 := m13.trans m14
   have m014 := m012.trans m1214
   refine ⟨By key, by simp [hk.len], hkey _ (B112.ext m1214), e, hep _ (B112.ext m1214), np, A4, n4, c4, A5, n5, c5, (B312.ext m1214).range_all, root.p, root.e, By root.d, by simp [hroot.len], hrt _ (B112.ext m1214), ?_⟩
   refine (refplan_ok (w := w14) hk he (hshr12.ext m1214) hroot (hn.ext m014) hl hnd (hcp.ext m14) hcpl (by omega) (by omega)).mono ?_
   rintro v w15 ⟨m15, hrp⟩
   have hex : ∃ pts' nds' rt' er' Ap cp An cn, v = .agg (told Ap pts'.length cp An nds'.length cn rt' er').toArray ∧ Res P' key e l root css pts' nds' rt' er' ∧ PrS By w15 Ap pts' ∧ PrS Rc w15 An nds' := by
    rcases hrp with ⟨h1, rfl⟩ | ⟨h1, Ap, cp, An, cn, rfl, h2, h3, _⟩
    ·exact ⟨[], [], rf0, 1, none, 0, none, 0, rfl, .inl ⟨h1, rfl, rfl, rfl, rfl⟩, PrS.nil _ _, PrS.nil _ _⟩
    ·exact ⟨_, _, _, 0, Ap, cp, An, cn, rfl, .inr ⟨h1, rfl, rfl, rfl, rfl⟩, h2, h3⟩
   obtain ⟨pts', nds', rt', er', Ap, cp, An, cn, rfl, hres', hp1', hp2'⟩ := hex
   obtain ⟨rfl, rfl, rfl, rfl⟩ := hres.uniq hres'
   refine ⟨Ap, _, cp, An, _, cn, rt'.p, rt'.e, By rt'.d, er', rfl, by simp [hrt1.len], fun b5 w16 e5 e5' => ?_⟩
   have B5 : Blk w16 b5 54 (told none 0 0 none 0 0 rf0 0).toArray := Blk.new e5 e5'
   have m16 : Ext w15 w16 := (Mod.refl _ _).alloc e5'
   refine ⟨told_len hrt1 .., told_one Ap _ cp An _ cn rt' er', lay_ok B5 (told_len hrt1 Ap _ cp An _ cn er') (by rfl) fun w17 B517 m17' => ?_⟩
   have m1517 : Ext w15 w17 := Fro.ext ((Mod.of_ext m16).trans (m17'.mono fun j _ e => by omega))
   have m1417 := m15.trans m1517
   have c36 : w17.cell? ⟨b5, 36, none⟩ = some (.int .i64 er') := by
    have e : told Ap pts'.length cp An nds'.length cn rt' er' = (([.slice Ap pts'.length cp, .slice An nds'.length cn] : List Value) ++ rt'.cells) ++ ([.int .i64 er'] : List Value) ++ [] := by simp [told_mid, List.append_assoc]
    rw [e] at B517
    exact B517.mid (by simp [hrt1.clen]) 0 _ rfl
   have c2 : w17.rangeAt b5 2 rt'.cells := by
    have h := B517
    rw [told_mid] at h
    exact h.mid rfl
   refine ⟨er', c36, fun h => absurd rfl h, fun _ => ⟨bF, 0, rfl, rt'.p, rt'.e, By rt'.d, by simp [hrt1.len], (hBF.ext m1417).range_all, rt'.p, rt'.e, By rt'.d, by simp [hrt1.len], c2, true, fun W => eq_ref hrt1, (fun h => by cases h), fun _ => ⟨Ap, _, cp, An, _, cn, rt'.p, rt'.e, By rt'.d, er', by simp [hrt1.len], B517.range_all, ?_⟩⟩⟩
   refine (puts_ok (w := w17) (A1 := A10) (A2 := Ap) (A3 := An) (hp1.ext m1417) rfl (hp1'.ext m1517) rfl hrt1 (fun z hz => by have := hsz2 z hz; omega) (by omega)).mono ?_
   rintro v w18 ⟨rfl, m18⟩
   refine ⟨true, rfl, (fun h => by cases h), fun _ => ⟨An, _, cn, by rw [(B517.ext m18).cell]; rfl, ?_⟩⟩
   refine (nsame_ok ((hp2.ext m1417).ext m18) rfl ((hp2'.ext m1517).ext m18) rfl hsz3 (by omega)).mono ?_
   rintro v w19 ⟨rfl, m19⟩
   refine ⟨true, rfl, (fun h => by cases h), fun _ => ⟨⟨i + 1, by rw [wrap_i64 (by omega) (by omega)]; rfl, by omega, m1214.trans ((m1417.trans m18).trans m19)⟩, by rw [wrap_i64 (by omega) (by omega)]; dsimp only; omega⟩⟩
  ·intro w20 e20
   have m20 : Ext w13 w20 := (Mod.refl _ _).drew e20
   refine ⟨By key, by simp [hk.len], hkey _ (B112.ext m13), e, hep _ (B112.ext m13), A3, n3, c3, (B212.ext m13).range_all, root.p, root.e, By root.d, by simp [hroot.len], hrt _ (B112.ext m13), fun wp0 mp0 _ => ?_⟩
   have ma := m20.trans mp0
   refine (theirs_ok (hn.ext (m013.trans ma)) hl hnd (by omega)).mono ?_
   rintro v wq0 ⟨mq0, A20, c20, rfl, ht⟩
   have mb := ma.trans mq0
   refine ⟨A20, n1, c20, rfl, mq0.keepFl (fun _ _ _ => id), mb.keep, fun wp1 mp1 _ => ?_⟩
   have mc := mb.trans mp1
   refine (changed_ok (hcp.ext mc) hcpl (by omega)).mono ?_
   rintro v wq1 ⟨mq1, A21, c21, rfl, hch⟩
   have md := mc.trans mq1
   refine ⟨A21, n2, c21, rfl, mq1.keepFl (fun _ _ _ => id), md.keep, fun wp2 mp2 _ => ?_⟩
   have me := md.trans mp2
   have ht2 := ht.rd.ext ((mp1.trans mq1).trans mp2)
   have hch2 := hch.ext mp2
   refine (plan_ok (w := wp2) hk he ((hsh12.ext m13).ext me) hroot ht2 hl hnd hch2 hcpl (by omega) (by omega)).mono ?_
   rintro v wq2 ⟨mq2, hpq⟩
   have hex : ∃ pts nds rt er Ap cp An cn, v = .tuple #[.slice Ap pts.length cp, .slice An nds.length cn, .agg rt.cells.toArray, .int .i64 er] ∧ Res P' key e l root css pts nds rt er ∧ PrO 70 5 1 By wq2 wp2.heap.size Ap cp pts ∧ PrO 67 46 34 Rc wq2 wp2.heap.size An cn nds ∧ rt.Ok ∧ (pts.length ≤ 1000 ∧ (∀ z ∈ pts, z.2.length ≤ 256) ∧ ∀ z ∈ nds, RsOk z.2 ∧ z.2.length ≤ 6) ∧ nds.length ≤ 300 := by
    rcases hpq with ⟨h1, rfl⟩ | ⟨h1, Ap, cp, An, cn, rfl, h2, h3, h4, h5⟩
    ·exact ⟨[], [], rf0, 1, none, 0, none, 0, rfl, .inl ⟨h1, rfl, rfl, rfl, rfl⟩, PrO.nil _ _, PrO.nil _ _, rf0_ok, ⟨by simp, by simp, by simp⟩, by simp⟩
    ·obtain ⟨g1, g2⟩ := pts_ok (key := key) hPr he h1.1 hnd hroot h1.2
     have g3 := (sokN (key := key) hPr he h1.1 hnd hroot h1.2 _ (Nat.le_refl _)).2.2
     rw [planN_all] at g3
     have g4 := need_len hPr (pgs css)
     exact ⟨_, _, _, 0, Ap, cp, An, cn, rfl, .inr ⟨h1, rfl, rfl, rfl, rfl⟩, h2, h3, h4, ⟨by omega, g2, h5⟩, by omega⟩
   obtain ⟨pts, nds, rt, er, Ap, cp, An, cn, rfl, hres, hq1, hq2, hrto, hsz, hsz4⟩ := hex
   refine ⟨Ap, _, cp, An, _, cn, rt.p, rt.e, By rt.d, er, rfl, by simp [hrto.len], mq2.keepFl (fun _ _ _ => id), fun bF wz mz hFl => ?_⟩
   have kz := hFl.2.2 _ (List.mem_singleton.2 rfl)
   have hBz : Blk wz bF 46 rf0.cells.toArray := kz.1
   have hg := kz.2.2 (wp2.heap.size, wq2.heap.size) (List.mem_cons_self ..)
   have hbig := kz.2.1
   refine ⟨hrto.clen, rt.one, lay_ok hBz hrto.clen (by rfl) fun w10 h10 m10 => ?_⟩
   have mf := (me.trans mq2).trans mz
   have hfar : Mod (fun j => j < wp2.heap.size) wq2 w10 := (Mod.of_ext mz).then m10 fun n hn e => by
    have h1 : bF < wp2.heap.size ∨ wq2.heap.size ≤ bF := hg
    omega
   have s20 := m20.size
   refine ⟨?_, pts, nds, rt, hres, rfl, rfl, (hq1.mod hfar fun j hj _ h => by omega).rd, (hq2.mod hfar fun j hj _ h => by omega).rd, hrto, hsz, hsz4, bF, rfl, h10⟩
   exact Fro.ext ((Mod.of_ext mf).trans (m10.mono fun j _ e => by omega))
 ·refine (calive_ok w13).mono ?_
  rintro v w14 ⟨rfl, m14⟩
  exact ⟨true, rfl, rfl, (m012.trans m13).trans m14⟩
end
end Go.Proofs.YtpkfdhlkknanmaaGreat
