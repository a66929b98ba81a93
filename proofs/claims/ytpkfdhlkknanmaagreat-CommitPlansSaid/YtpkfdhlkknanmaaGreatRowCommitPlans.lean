/-
 WHAT IS PROVED: the given statement 'Rows.CommitPlansSaid': for every argument list, 'carling/carlinglaw16.CommitPlans' returns true, and all arguments read behind the call as they read before.
 The walk is theorem 'law_ok' of the text YtpkfdhlkknanmaaGreatCLaw4; here the arguments are opened to cells and the answer is shut into the row.
-/
import Derived.Test.YtpkfdhlkknanmaaGreatRows
import Derived.Test.YtpkfdhlkknanmaaGreatCLaw4
import Derived.WalkKit
import Derived.ProofKit
import Derived.OpenShut
import Derived.ShutString
import Derived.ChangeOld
import Derived.Below
import Derived.Deep.Slices
import Derived.Deep.Fields
import Derived.ChangeSame
set_option linter.all false
namespace Go.Proofs.YtpkfdhlkknanmaaGreat
namespace RowCommitPlans
open Go.ChangeShapes Go.WideShapes Go.ChangeAt Go.RowKit Go.Deep
theorem own : ownKnob Tryz.prog.godebug = none := by kernel_rfl
theorem laidOut : laidOutB Tryz.prog = true := by kernel_rfl
theorem list_of {α : Type} (Q : Nat → α → Prop) : ∀ n, (∀ i, i < n → ∃ s, Q i s) → ∃ ss : List α, ss.length = n ∧ ∀ (i : Nat) s, ss[i]? = some s → Q i s
 | 0, _ => ⟨[], rfl, fun i s h => by simp at h⟩
 | n + 1, h => by
  obtain ⟨ss, hl, hs⟩ := list_of Q n fun i hi => h i (by omega)
  obtain ⟨s, hq⟩ := h n (by omega)
  refine ⟨ss ++ [s], by simp [hl], fun i t ht => ?_⟩
  rcases Nat.lt_or_ge i n with hi | hi
  ·rw [List.getElem?_append_left (by omega)] at ht
   exact hs i t ht
  ·rw [List.getElem?_append_right (by omega)] at ht
   cases hd : i - ss.length with
   | zero =>
    rw [hd] at ht
    cases ht
    obtain rfl : i = n := by omega
    exact hq
   | succ k => rw [hd] at ht; simp at ht
theorem add_none {a : Addr} (h : a.spot = none) (k : Nat) : a.add k = ⟨a.block, a.off + k, none⟩ := by
 obtain ⟨b, o, s⟩ := a
 obtain rfl : s = none := h
 unfold Addr.add
 split
 ·subst_vars
  rfl
 ·rfl
theorem addr_none {a : Addr} (h : a.spot = none) : some a = some ⟨a.block, a.off, none⟩ := by
 obtain ⟨b, o, s⟩ := a
 obtain rfl : s = none := h
 rfl
theorem flat_get {X : Type} {cel : X → List Value} {sz : Nat} (h0 : 0 < sz) : ∀ {xs : List X} {j : Nat} {v : Value}, (∀ x ∈ xs, (cel x).length = sz) → (xs.flatMap cel)[j]? = some v → ∃ i k x, j = i * sz + k ∧ xs[i]? = some x ∧ (cel x)[k]? = some v
 | [], j, v, _, h => by simp at h
 | x :: xs, j, v, hl, h => by
  have hx := hl x (List.mem_cons_self ..)
  rw [List.flatMap_cons] at h
  rcases Nat.lt_or_ge j sz with hj | hj
  ·rw [List.getElem?_append_left (by omega)] at h
   exact ⟨0, j, x, by omega, rfl, h⟩
  ·rw [List.getElem?_append_right (by omega)] at h
   obtain ⟨i, k, y, e, h1, h2⟩ := flat_get h0 (fun y hy => hl y (List.mem_cons_of_mem _ hy)) h
   exact ⟨i + 1, k, y, by rw [Nat.add_mul, Nat.one_mul]; omega, by simpa using h1, h2⟩
theorem rows_of {X : Type} (cel : X → List Value) {sz : Nat} (h0 : 0 < sz) {w : World} {a : Addr} {xs : List X} (hc : ∀ (i : Nat) x, xs[i]? = some x → (cel x).length = sz ∧ ∀ (k : Nat) v, (cel x)[k]? = some v → w.cell? ((a.add (i * sz)).add k) = some v) : RdS w (some a) (xs.flatMap cel) := by
 cases hx : xs with
 | nil => exact .inl rfl
 | cons x0 rest =>
  obtain ⟨hl, hk⟩ := hc 0 x0 (by rw [hx]; rfl)
  have hv : (cel x0)[0]? = some ((cel x0)[0]'(by omega)) := List.getElem?_eq_getElem (by omega)
  have hcell := hk 0 _ hv
  have hz : (a.add (0 * sz)).add 0 = a := by rw [Nat.zero_mul]; exact (if_pos rfl).trans (if_pos rfl)
  rw [hz] at hcell
  have hsp : a.spot = none := World.cell?_spot hcell
  rw [← hx]
  refine .inr ⟨a.block, a.off, addr_none hsp, fun j v hj => ?_⟩
  obtain ⟨i, k, x, rfl, h1, h2⟩ := flat_get h0 (fun x hx' => by
   obtain ⟨i, hi, rfl⟩ := List.mem_iff_getElem.1 hx'
   exact (hc i _ (List.getElem?_eq_getElem hi)).1) hj
  have := (hc i x h1).2 k v h2
  rw [add_none hsp, add_none (by rfl)] at this
  rw [← Nat.add_assoc]
  exact this
section
variable {H : Type} {enc : TypeId × Value → H} {w : World} {n : Nat}
theorem bytes_of {v : Value} {y : DataW H × List MemPlace}
  (h : DataW.trod enc Tryz.prog w 0 (fun _ => true) true n 62 [v] = some y) : ∃ (B : Option Addr) (c : Nat) (l : List Int), v = .slice B l.length c ∧ RdS w B (By l) := by
 rcases open_ints Tryz.underlying62 Tryz.underlying5 (by kernel_rfl) h with ⟨hcs, _⟩ | ⟨a, l, c, zs, hcs, _, hl, _, hz, _, hcell, _⟩
 ·cases hcs
  exact ⟨none, 0, [], rfl, .inl rfl⟩
 ·cases hcs
  have hz' : zs.length = c := by simpa using hz
  refine ⟨some a, c, zs.take l, by rw [List.length_take, Nat.min_eq_left (by omega)], ?_⟩
  cases hzs : zs with
  | nil => exact .inl (by simp [By])
  | cons z0 zs0 =>
   have h0 := hcell 0 (by rw [hzs]; simp)
   have hsp : a.spot = none := by simpa [Addr.add] using World.cell?_spot h0
   rw [← hzs]
   refine .inr ⟨a.block, a.off, addr_none hsp, fun j v hj => ?_⟩
   simp only [By, List.getElem?_map, Option.map_eq_some_iff] at hj
   obtain ⟨x, hx, rfl⟩ := hj
   obtain ⟨hjl, hx⟩ : j < l ∧ zs[j]? = some x := by
    rw [List.getElem?_take] at hx
    split at hx
    ·exact ⟨by assumption, hx⟩
    ·cases hx
   have hj2 := (List.getElem?_eq_some_iff.1 hx).1
   have hc := hcell j hj2
   rw [List.getD_eq_getElem?_getD, hx] at hc
   rw [add_none hsp] at hc
   exact hc
theorem arr_of {cs : List Value} {y : DataW H × List MemPlace} (h : DataW.trod enc Tryz.prog w 0 (fun _ => true) true n 22 cs = some y) : ∃ l : List Int, cs = By l ∧ l.length = 32 ∧ Bytes l := by
 obtain ⟨xs, m, _, _, hl, hxl, hi⟩ := DataW.trod_array Tryz.underlying22 h
 have hc : Tryz.prog.cellsOf 5 = 1 := by kernel_rfl
 have hc2 : Tryz.prog.cellsOf 22 = 32 := by kernel_rfl
 rw [hc2] at hl
 rw [hc] at hi
 obtain ⟨l, hll, hq⟩ := list_of (fun i (z : Int) => cs[i]? = some (.int .u8 z) ∧ R8 z) 32 fun i hi32 => by
  have h1 := hi i hi32
  rw [List.getElem?_eq_getElem (by omega)] at h1
  obtain ⟨z, hz, _, hwf⟩ := DataW.trod_int Tryz.underlying5 h1
  refine ⟨z, ?_, ?_⟩
  ·have : ((cs.drop (i * 1)).take 1)[0]? = some (.int .u8 z) := by rw [hz]; rfl
   rw [List.getElem?_take_of_lt (by decide), List.getElem?_drop, Nat.mul_one] at this
   exact this
  ·have := bounds_u8 hwf
   exact ⟨this.1, by omega⟩
 refine ⟨l, ?_, hll, fun x hx => ?_⟩
 ·apply List.ext_getElem?
  intro i
  rcases Nat.lt_or_ge i 32 with h32 | h32
  ·have hi2 : l[i]? = some (l[i]'(by omega)) := List.getElem?_eq_getElem (by omega)
   rw [(hq i _ hi2).1]
   exact (By_get hi2).symm
  ·rw [List.getElem?_eq_none (by omega), List.getElem?_eq_none (by rw [By_length]; omega)]
 ·obtain ⟨i, hi2, rfl⟩ := List.mem_iff_getElem.1 hx
  exact (hq i _ (List.getElem?_eq_getElem hi2)).2
theorem one_take {cs : List Value} {o : Nat} {v : Value} (h : (cs.drop o).take 1 = [v]) : cs[o]? = some v := by
 have : ((cs.drop o).take 1)[0]? = some v := by rw [h]; rfl
 rw [List.getElem?_take_of_lt (by decide), List.getElem?_drop] at this
 exact this
theorem ref_of {cs : List Value} {y : DataW H × List MemPlace} (h : DataW.trod enc Tryz.prog w 0 (fun _ => true) true n 25 cs = some y) : ∃ r : Rf, cs = r.cells ∧ r.Ok := by
 obtain ⟨xs, m, _, _, hl, hxl, hf⟩ := DataW.trod_struct Tryz.underlying25 h
 have hc : Tryz.prog.cellsOf 25 = 34 := by kernel_rfl
 have c1 : Tryz.prog.cellsOf 3 = 1 := by kernel_rfl
 have c2 : Tryz.prog.cellsOf 23 = 1 := by kernel_rfl
 have c3 : Tryz.prog.cellsOf 22 = 32 := by kernel_rfl
 rw [hc] at hl
 have hxl3 : xs.length = 3 := hxl
 have h0 : DataW.trod enc Tryz.prog w 0 (fun _ => true) true m 3 ((cs.drop 0).take (Tryz.prog.cellsOf 3)) = xs[0]? := hf 0 _ rfl
 have h1 : DataW.trod enc Tryz.prog w 0 (fun _ => true) true m 23 ((cs.drop 1).take (Tryz.prog.cellsOf 23)) = xs[1]? := hf 1 _ rfl
 have h2 : DataW.trod enc Tryz.prog w 0 (fun _ => true) true m 22 ((cs.drop 2).take (Tryz.prog.cellsOf 22)) = xs[2]? := hf 2 _ rfl
 rw [c1, List.getElem?_eq_getElem (by omega)] at h0
 rw [c2, List.getElem?_eq_getElem (by omega)] at h1
 rw [c3, List.getElem?_eq_getElem (by omega)] at h2
 obtain ⟨p, e0, _, _⟩ := DataW.trod_int Tryz.underlying3 h0
 obtain ⟨e, e1, _, hw1⟩ := DataW.trod_int Tryz.underlying23 h1
 obtain ⟨d, e2, hd, hb⟩ := arr_of h2
 have hbd := bounds_u32 hw1
 refine ⟨⟨p, e, d⟩, ?_, ⟨hd, hb, ⟨hbd.1, by show e < 4294967296; omega⟩⟩⟩
 have f0 : cs = cs.take 1 ++ cs.drop 1 := (List.take_append_drop 1 cs).symm
 have f1 : cs.drop 1 = (cs.drop 1).take 1 ++ cs.drop 2 := by
  have := (List.take_append_drop 1 (cs.drop 1)).symm
  rwa [List.drop_drop] at this
 have f2 : cs.drop 2 = By d := by
  rw [← e2, List.take_of_length_le (by rw [List.length_drop]; omega)]
 have g0 : cs.take 1 = [.int .i64 p] := e0
 rw [f0, g0, f1, e1, f2]
 rfl
theorem refs_of {v : Value} {y : DataW H × List MemPlace} (h : DataW.trod enc Tryz.prog w 0 (fun _ => true) true n 59 [v] = some y) : ∃ (B : Option Addr) (c : Nat) (rs : List Rf), v = .slice B rs.length c ∧ RdS w B (Rc rs) ∧ RsOk rs := by
 have hc : Tryz.prog.cellsOf 25 = 34 := by kernel_rfl
 rcases open_slice Tryz.underlying59 h with ⟨hcs, _⟩ | ⟨a, l, c, m, k, D, Pl, hcs, _, hlc, _, hm, _, hi⟩
 ·cases hcs
  exact ⟨none, 0, [], rfl, .inl rfl, fun r hr => by cases hr⟩
 ·cases hcs
  have hm' : m = c := by simpa using hm
  subst hm'
  rw [hc] at hi
  obtain ⟨rs, hrl, hq⟩ := list_of (fun i (r : Rf) => r.Ok ∧ w.cells? 0 (a.add (i * 34)) 34 = some r.cells) l fun i hil => by
   obtain ⟨cs', h1, h2⟩ := hi i (by omega)
   obtain ⟨r, rfl, hr⟩ := ref_of h2
   exact ⟨r, hr, h1⟩
  refine ⟨some a, m, rs, by rw [hrl], rows_of Rf.cells (sz := 34) (by decide) fun i r hr => ?_, fun r hr => ?_⟩
  ·obtain ⟨h1, h2⟩ := hq i r hr
   obtain ⟨_, hl34, hcell⟩ := World.cells?_some h2
   exact ⟨hl34, fun k v hk => by rw [hcell k (by have := (List.getElem?_eq_some_iff.1 hk).1; omega)]; exact hk⟩
  ·obtain ⟨i, hi2, rfl⟩ := List.mem_iff_getElem.1 hr
   exact (hq i _ (List.getElem?_eq_getElem hi2)).1
theorem pairs_of {α : Type} {encl : List α → List Value} {a : Addr} {len : Nat} (ok : List α → Prop) (hi : ∀ i, i < len → ∃ (x : Int × List α) (B : Option Addr) (c : Nat), w.cells? 0 (a.add (i * 2)) 2 = some ([.int .i64 x.1, .slice B x.2.length c] : List Value) ∧ RdS w B (encl x.2) ∧ ok x.2) :
  ∃ l : List (Int × List α), l.length = len ∧ PrS encl w (some a) l ∧ ∀ x ∈ l, ok x.2 := by
 obtain ⟨xs, hxl, hq⟩ := list_of (fun i (z : (Int × List α) × Pr) => w.cells? 0 (a.add (i * 2)) 2 = some z.2.cells ∧ z.2.k = z.1.1 ∧ z.2.n = z.1.2.length ∧ RdS w z.2.A (encl z.1.2) ∧ ok z.1.2) len fun i hil => by
  obtain ⟨x, B, c, h1, h2, h3⟩ := hi i hil
  exact ⟨(x, ⟨x.1, B, x.2.length, c⟩), h1, rfl, rfl, h2, h3⟩
 refine ⟨xs.map (·.1), by simp [hxl], ⟨xs.map (·.2), by simp, ?_, fun i p x hp hx => ?_⟩, fun x hx => ?_⟩
 ·refine rows_of Pr.cells (sz := 2) (by decide) fun i p hp => ?_
  rw [List.getElem?_map, Option.map_eq_some_iff] at hp
  obtain ⟨z, hz, rfl⟩ := hp
  obtain ⟨_, _, hcell⟩ := World.cells?_some (hq i z hz).1
  exact ⟨rfl, fun k v hk => by rw [hcell k (by have := (List.getElem?_eq_some_iff.1 hk).1; exact this)]; exact hk⟩
 ·rw [List.getElem?_map, Option.map_eq_some_iff] at hp hx
  obtain ⟨z, hz, rfl⟩ := hp
  obtain ⟨z', hz', rfl⟩ := hx
  rw [hz] at hz'; cases hz'
  obtain ⟨_, h1, h2, h3, _⟩ := hq i z hz
  exact ⟨h1, h2, h3⟩
 ·obtain ⟨z, hz, rfl⟩ := List.mem_map.1 hx
  obtain ⟨i, hi2, rfl⟩ := List.mem_iff_getElem.1 hz
  exact (hq i _ (List.getElem?_eq_getElem hi2)).2.2.2.2
theorem two_of {cs : List Value} {a b : Value} (hl : cs.length = 2) (h0 : cs[0]? = some a) (h1 : cs[1]? = some b) : cs = [a, b] := by
 match cs, hl with
 | [x, y], _ => cases h0; cases h1; rfl
theorem nodes_of {A : Option Addr} {len cap : Nat} {y : DataW H × List MemPlace} (h : DataW.trod enc Tryz.prog w 0 (fun _ => true) true n 28 [.slice A len cap] = some y) : ∃ l : List (Int × List Rf), l.length = len ∧ PrS Rc w A l ∧ ∀ x ∈ l, RsOk x.2 := by
 have hc : Tryz.prog.cellsOf 61 = 2 := by kernel_rfl
 have c0 : Tryz.prog.cellsOf 3 = 1 := by kernel_rfl
 have c1 : Tryz.prog.cellsOf 59 = 1 := by kernel_rfl
 rcases open_slice Tryz.underlying28 h with ⟨hcs, _⟩ | ⟨a, l, c, m, k, D, Pl, hcs, _, hlc, _, hm, _, hi⟩
 ·cases hcs
  exact ⟨[], rfl, PrS.nil _ _, fun x hx => by cases hx⟩
 ·cases hcs
  have hm' : m = cap := by simpa using hm
  subst hm'
  rw [hc] at hi
  refine pairs_of RsOk fun i hil => ?_
  obtain ⟨cs', h1, h2⟩ := hi i (by omega)
  obtain ⟨y0, y1, _, _, hl, t0, t1⟩ := trod_struct2 Tryz.underlying61 h2
  rw [hc] at hl
  try dsimp only at t0 t1
  rw [c0] at t0
  rw [c1] at t1
  obtain ⟨z, e0, _, _⟩ := DataW.trod_int Tryz.underlying3 t0
  obtain ⟨v1, e1⟩ : ∃ v, (cs'.drop 1).take 1 = [v] := ⟨cs'[1]'(by omega), by rw [List.drop_eq_getElem_cons (by omega)]; rfl⟩
  rw [e1] at t1
  obtain ⟨B, cB, rs, rfl, hr, hok⟩ := refs_of t1
  have := two_of hl (one_take e0) (one_take e1)
  subst this
  exact ⟨(z, rs), B, cB, h1, hr, hok⟩
theorem changes_of {A : Option Addr} {len cap : Nat} {y : DataW H × List MemPlace} (h : DataW.trod enc Tryz.prog w 0 (fun _ => true) true n 29 [.slice A len cap] = some y) : ∃ l : List (Int × List Int), l.length = len ∧ PrS By w A l := by
 have hc : Tryz.prog.cellsOf 64 = 2 := by kernel_rfl
 have c0 : Tryz.prog.cellsOf 3 = 1 := by kernel_rfl
 have c1 : Tryz.prog.cellsOf 62 = 1 := by kernel_rfl
 rcases open_slice Tryz.underlying29 h with ⟨hcs, _⟩ | ⟨a, l, c, m, k, D, Pl, hcs, _, hlc, _, hm, _, hi⟩
 ·cases hcs
  exact ⟨[], rfl, PrS.nil _ _⟩
 ·cases hcs
  have hm' : m = cap := by simpa using hm
  subst hm'
  rw [hc] at hi
  obtain ⟨l, h1, h2, _⟩ := pairs_of (encl := By) (fun _ => True) (w := w) (a := a) (len := len) fun i hil => by
   obtain ⟨cs', h1, h2⟩ := hi i (by omega)
   obtain ⟨y0, y1, _, _, hl, t0, t1⟩ := trod_struct2 Tryz.underlying64 h2
   rw [hc] at hl
   try dsimp only at t0 t1
   rw [c0] at t0
   rw [c1] at t1
   obtain ⟨z, e0, _, _⟩ := DataW.trod_int Tryz.underlying3 t0
   obtain ⟨v1, e1⟩ : ∃ v, (cs'.drop 1).take 1 = [v] := ⟨cs'[1]'(by omega), by rw [List.drop_eq_getElem_cons (by omega)]; rfl⟩
   rw [e1] at t1
   obtain ⟨B, cB, rs, rfl, hr⟩ := bytes_of t1
   have := two_of hl (one_take e0) (one_take e1)
   subst this
   exact ⟨(z, rs), B, cB, h1, hr, trivial⟩
  exact ⟨l, h1, h2⟩
theorem ask_of {cs : List Value} {y : DataW H × List MemPlace} (h : DataW.trod enc Tryz.prog w 0 (fun _ => true) true n 27 cs = some y) :
  ∃ (x : Int) (key : List Int) (e : Int) (r : Rf), cs = ([.int .u8 x] : List Value) ++ By key ++ ([.int .u32 e, .int .i64 r.p, .int .u32 r.e] : List Value) ++ By r.d ∧ R8 x ∧ KeyOk key ∧ R32 e ∧ r.Ok := by
 obtain ⟨xs, m, _, _, hl, hxl, hf⟩ := DataW.trod_struct Tryz.underlying27 h
 have hc : Tryz.prog.cellsOf 27 = 68 := by kernel_rfl
 have k1 : Tryz.prog.cellsOf 5 = 1 := by kernel_rfl
 have k2 : Tryz.prog.cellsOf 23 = 1 := by kernel_rfl
 have k3 : Tryz.prog.cellsOf 22 = 32 := by kernel_rfl
 have k4 : Tryz.prog.cellsOf 25 = 34 := by kernel_rfl
 rw [hc] at hl
 have hxl4 : xs.length = 4 := hxl
 have h0 : DataW.trod enc Tryz.prog w 0 (fun _ => true) true m 5 ((cs.drop 0).take (Tryz.prog.cellsOf 5)) = xs[0]? := hf 0 _ rfl
 have h1 : DataW.trod enc Tryz.prog w 0 (fun _ => true) true m 22 ((cs.drop 1).take (Tryz.prog.cellsOf 22)) = xs[1]? := hf 1 _ rfl
 have h2 : DataW.trod enc Tryz.prog w 0 (fun _ => true) true m 23 ((cs.drop 33).take (Tryz.prog.cellsOf 23)) = xs[2]? := hf 2 _ rfl
 have h3 : DataW.trod enc Tryz.prog w 0 (fun _ => true) true m 25 ((cs.drop 34).take (Tryz.prog.cellsOf 25)) = xs[3]? := hf 3 _ rfl
 rw [k1, List.getElem?_eq_getElem (by omega)] at h0
 rw [k3, List.getElem?_eq_getElem (by omega)] at h1
 rw [k2, List.getElem?_eq_getElem (by omega)] at h2
 rw [k4, List.getElem?_eq_getElem (by omega)] at h3
 obtain ⟨x, e0, _, hw0⟩ := DataW.trod_int Tryz.underlying5 h0
 obtain ⟨key, e1, hkl, hkb⟩ := arr_of h1
 obtain ⟨e, e2, _, hw2⟩ := DataW.trod_int Tryz.underlying23 h2
 obtain ⟨r, e3, hr⟩ := ref_of h3
 have b0 := bounds_u8 hw0
 have b2 := bounds_u32 hw2
 refine ⟨x, key, e, r, ?_, ⟨b0.1, by omega⟩, ⟨hkl, hkb⟩, ⟨b2.1, by omega⟩, hr⟩
 have f0 : cs = cs.take 1 ++ cs.drop 1 := (List.take_append_drop 1 cs).symm
 have f1 : cs.drop 1 = (cs.drop 1).take 32 ++ cs.drop 33 := by
  have := (List.take_append_drop 32 (cs.drop 1)).symm
  rwa [List.drop_drop] at this
 have f2 : cs.drop 33 = (cs.drop 33).take 1 ++ cs.drop 34 := by
  have := (List.take_append_drop 1 (cs.drop 33)).symm
  rwa [List.drop_drop] at this
 have f3 : cs.drop 34 = r.cells := by
  rw [← e3, List.take_of_length_le (by rw [List.length_drop]; omega)]
 have g0 : cs.take 1 = [.int .u8 x] := e0
 rw [f0, g0, f1, e1, f2, e2, f3]
 simp [Rf.cells, List.append_assoc]
end
set_option maxRecDepth 100000 in
theorem lifted (os : Os) (started : os.Started) (H : Type) (enc : TypeId × Value → H) :
  ReturnsInHanded {} Tryz.checked os 3 .any (Rows.commitPlansSpec.pre6 enc Tryz.prog Tryz.f3 Rows.commitPlansRow.domain false) (Rows.commitPlansSpec.post enc Tryz.prog Tryz.f3 false true false false) := by
 refine returnsInHanded_of_change (C := Tryz.checked) own started (by kernel_rfl) Tryz.func3
  (ChangeSpec.witness6 (enc := enc) (C := Tryz.checked) false ⟨#[], #[.agg (([.int .u8 0] : List Value) ++ List.replicate 32 (Value.int .u8 0) ++ ([.int .u32 0, .int .i64 0, .int .u32 0] : List Value) ++ List.replicate 32 (Value.int .u8 0)).toArray, .slice none 0 0, .slice none 0 0], []⟩ 8 (by kernel_rfl) (by kernel_rfl) (by kernel_rfl) (by kernel_rfl)) ?_
 intro W base args ds gs before hval0 hW hcnd _
 have hval : ∀ (j : Nat) t v, Tryz.f3.params[j]? = some t → args[j]? = some v → Value.okWide Tryz.prog W .any base t v := hval0
 have hW' := hW
 obtain ⟨p, q, hA0, hV, rfl, hfz, hnd⟩ := hW
 have hA : DataW.TrodAll enc Tryz.prog W 0 (fun _ => true) true Tryz.f3.params.toList args.toList ds p := hA0
 rw [Tryz.params3] at hA hval
 obtain ⟨v0, vs0, d0, ds0, p0, q0, hargs, rfl, rfl, h0, r0⟩ := trodAll_cons hA
 obtain ⟨v1, vs1, d1, ds1, p1, q1, rfl, rfl, rfl, h1, r1⟩ := trodAll_cons r0
 obtain ⟨v2, vs2, d2, ds2, p2, q2, rfl, rfl, rfl, h2, r2⟩ := trodAll_cons r1
 obtain ⟨rfl, rfl, rfl⟩ := trodAll_nil r2
 obtain rfl : args = #[v0, v1, v2] := by cases args; simp_all
 obtain ⟨rfl, rfl⟩ := trodVars_none hV
 obtain ⟨cs0, rfl, hsz0⟩ := okWide_struct Tryz.underlying27 (hval 0 27 v0 rfl rfl)
 obtain ⟨A1, len1, cap1, rfl⟩ := okWide_slice Tryz.underlying28 (hval 1 28 v1 rfl rfl)
 obtain ⟨A2, len2, cap2, rfl⟩ := okWide_slice Tryz.underlying29 (hval 2 29 v2 rfl rfl)
 have k0 := h0
 have k1 := h1
 have k2 := h2
 have lt0 : ∀ x ∈ p0, x.block < W.heap.size := by obtain ⟨m, hm⟩ := k0; exact DataW.trod_lt m _ _ _ hm
 have lt1 : ∀ x ∈ p1, x.block < W.heap.size := by obtain ⟨m, hm⟩ := k1; exact DataW.trod_lt m _ _ _ hm
 have lt2 : ∀ x ∈ p2, x.block < W.heap.size := by obtain ⟨m, hm⟩ := k2; exact DataW.trod_lt m _ _ _ hm
 obtain ⟨x, key, e, r, hcs, hx, hkey, he, hr⟩ : ∃ (x : Int) (key : List Int) (e : Int) (r : Rf), cs0.toList = ([.int .u8 x] : List Value) ++ By key ++ ([.int .u32 e, .int .i64 r.p, .int .u32 r.e] : List Value) ++ By r.d ∧ R8 x ∧ KeyOk key ∧ R32 e ∧ r.Ok := by
  obtain ⟨fuel, hf⟩ := h0
  exact ask_of hf
 obtain ⟨l, hl, hn, hok⟩ : ∃ l : List (Int × List Rf), l.length = len1 ∧ PrS Rc W A1 l ∧ ∀ x ∈ l, RsOk x.2 := by
  obtain ⟨fuel, hf⟩ := h1
  exact nodes_of hf
 obtain ⟨cs, hcl, hc⟩ : ∃ l : List (Int × List Int), l.length = len2 ∧ PrS By W A2 l := by
  obtain ⟨fuel, hf⟩ := h2
  exact changes_of hf
 clear hA0 hval0
 have hcs' : cs0 = (([.int .u8 x] : List Value) ++ By key ++ ([.int .u32 e, .int .i64 r.p, .int .u32 r.e] : List Value) ++ By r.d).toArray := by
  rw [← hcs]
 subst hcs'
 refine Calls.mono (law_ok (w := W) (c1 := cap1) (c2 := cap2) hx hkey he hr hn hl hok hc hcl) fun e' W' he' => ?_
 obtain ⟨v, rfl, rfl, hm⟩ := he'
 have bel : Below W.heap.size W W' := hm.below fun k hk => ⟨hk, id⟩
 exact ⟨_, rfl, _, _, _, [], _, [], hW', trodAll_mk1 (shut_bool Tryz.underlying4 _), (trodAll_cons_mk (Below.trod laidOut (by kernel_rfl) (of_decide_eq_true (by kernel_rfl)) k0 bel lt0) (trodAll_cons_mk (Below.trod laidOut (by kernel_rfl) (of_decide_eq_true (by kernel_rfl)) k1 bel lt1) (trodAll_cons_mk (Below.trod laidOut (by kernel_rfl) (of_decide_eq_true (by kernel_rfl)) k2 bel lt2) trodAll_mk0))), rfl, bel.frame _, fun h => by cases h⟩
theorem over : Rows.commitPlansRow.holds Tryz.pinned (OpenSpec.ofChange Rows.commitPlansSpec) :=
 OpenClaim.holds_of_wide 3 Tryz.f3 rfl rfl rfl rfl rfl rfl rfl ⟨rfl, rfl, rfl, rfl, rfl⟩ rfl rfl rfl rfl rfl (by kernel_rfl) Tryz.func3 (by kernel_rfl)
  (of_decide_eq_true (by kernel_rfl)) (by unfold Func.isWrapper; first | (rw [if_pos (by decide +kernel)]; kernel_rfl) | (rw [if_neg (by decide +kernel)]; exact ⟨rfl, rfl⟩))
  (fun os started H enc _ => lifted os started H enc)
end RowCommitPlans
theorem commitPlansProved : Rows.CommitPlansSaid := RowCommitPlans.over
#print axioms commitPlansProved
end Go.Proofs.YtpkfdhlkknanmaaGreat
