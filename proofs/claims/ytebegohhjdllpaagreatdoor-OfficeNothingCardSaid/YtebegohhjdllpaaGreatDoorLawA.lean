/-
  The law, case by case (1).
-/
import Derived.Test.YtebegohhjdllpaaGreatDoorSho
import Derived.Test.YtebegohhjdllpaaGreatDoorSan
import Derived.Test.YtebegohhjdllpaaGreatDoorDayB
set_option linter.unusedVariables false
set_option linter.unusedSimpArgs false
namespace Go.Proofs.YtebegohhjdllpaaGreatDoor
open Go Go.Ev Go.RowKit
/-- The cells of the event, by their numbers. -/
noncomputable def rawCells : List AV := mkRow [.good] 1 0 21 0
noncomputable def ones21L : List AV := [.one, .one, .one, .one, .one, .one, .one, .one, .one, .one, .one, .one, .one, .one, .one, .one, .one, .one, .one, .one, .one]
noncomputable def shortH : Handler := fun args m => match args with
  | [.agg cs] => match sameL rawCells cs with
    | true => some (.agg ones21L, m)
    | false => none
  | _ => none
noncomputable def lawS : List (Nat × Handler) := [(4, memoH [([], .bool true)]), (7, shortH), (16, memoH [([.nilSlice, .sym 2], sheet0)])]
/-- Bounds of the two numbers. -/
noncomputable def twoB (l0 h0 l1 h1 : Int) : Nat → Option (Int × Int) := fun i => match i with
  | 0 => some (l0, h0)
  | 1 => some (l1, h1)
  | _ => none
noncomputable def EL (l0 h0 l1 h1 : Int) (v : Nat → Value) (b : Nat) (o : Nat → Option Obj) : Env := ⟨Tryz.prog, 14, fun _ => none, joinP, twoB l0 h0 l1 h1, v, b, o⟩
noncomputable def lawRun (l0 h0 l1 h1 : Int) (v : Nat → Value) (b : Nat) (o : Nat → Option Obj) (x y : AV) : Bool :=
  allP (sameV (.bool true)) (callA (withS (EL l0 h0 l1 h1 v b o) lawS) 1000000 3 [.agg [x, y], .agg rawCells, .sym 2] (startOf 14))
theorem EvOk.one {old : Nat → Option Obj} {base : Nat} {cells : List Value} (hs : EvOk old base cells) : ∀ (j : Nat) (u : Value), cells[j]? = some u → u.oneCell' = true := by
  intro j u hu
  have hlt := (List.getElem?_eq_some_iff.1 hu).1
  rw [hs.len] at hlt
  by_cases h : j < 19
  · obtain ⟨u', h1, h2⟩ := hs.plain j h
    rw [hu] at h1
    simp only [Option.some.injEq] at h1
    subst h1
    have hk : j < kEvent.length := h
    have := h2 kEvent[j] (List.getElem?_eq_getElem hk)
    generalize kEvent[j] = kd at this
    cases kd with
    | one => exact this
    | str => obtain ⟨s, rfl⟩ := this; rfl
    | good => exact this
  · by_cases h19 : j = 19
    · subst h19
      have := hs.edits u hu
      cases this <;> rfl
    · have : j = 20 := by omega
      subst this
      exact (hs.body u hu).1
theorem raw_get {i : Nat} {a : AV} (h : rawCells[i]? = some a) : a = .vgood i := by
  obtain ⟨kd, h1, rfl⟩ := mkRow_get h
  rw [Nat.mod_one] at h1
  simp only [List.getElem?_cons_zero, Option.some.injEq] at h1
  subst h1
  rw [Nat.zero_add, Nat.zero_add]
  rfl
theorem raw_len : rawCells.length = 21 := by kernel_rfl
theorem short_ok {l0 h0 l1 h1 : Int} {v : Nat → Value} {b : Nat} {o : Nat → Option Obj} {cells : List Value} (hs : EvOk o b cells) (hv : ∀ j u, cells[j]? = some u → v j = u) (ν : Nat → Int) :
    HandOk (EL l0 h0 l1 h1 v b o) ν 7 shortH := by
  intro φ B m w args cargs x m' hm hl hx
  unfold shortH at hx
  split at hx
  · rename_i cs
    split at hx
    · rename_i hc
      have := sameL_eq _ _ hc
      subst this
      simp only [Option.some.injEq, Prod.mk.injEq] at hx
      obtain ⟨rfl, rfl⟩ := hx
      obtain ⟨c, cs', rfl, q1, q2⟩ := hl.cons_inv
      rw [q2.nil_inv]
      obtain ⟨ds, rfl, hd⟩ := q1.agg_inv
      have hlen : ds.length = 21 := by rw [← hd.1]; exact raw_len
      have hds : ds = cells := by
        apply List.ext_getElem?
        intro i
        by_cases hi : i < 21
        · have h1 : i < rawCells.length := by rw [raw_len]; exact hi
          have h2 : i < ds.length := by omega
          have h3 : i < cells.length := by rw [hs.len]; exact hi
          have g := hd.2 i _ _ (List.getElem?_eq_getElem h1) (List.getElem?_eq_getElem h2)
          rw [raw_get (List.getElem?_eq_getElem h1)] at g
          rw [List.getElem?_eq_getElem h2, List.getElem?_eq_getElem h3]
          have e := hv i _ (List.getElem?_eq_getElem h3)
          cases g with
          | vgood g1 _ => rw [← g1, hm.vals, ← e]; rfl
        · rw [List.getElem?_eq_none (by omega), List.getElem?_eq_none (by rw [hs.len]; omega)]
      subst hds
      have hc := short_calls hs (w := w) hm.sizeG (Nat.le_trans hm.bas hm.base) hm.old
      refine hand_of (args := []) (cargs := [.agg ds.toArray]) (by kernel_rfl) hm (Q := fun y => ∃ l : List Value, y = .agg l.toArray ∧ l.length = 21 ∧ ∀ u ∈ l, u.oneCell' = true)
        (hc.mono fun e w' hq => ?_) (fun y hy => ?_)
      · obtain ⟨y, g1, g2, g3, g4⟩ := hq
        exact ⟨_, g1, g2, y, rfl, g3, g4⟩
      · obtain ⟨l, rfl, g3, g4⟩ := hy
        refine VRel.agg' ⟨by rw [g3]; rfl, fun i a u ha hu => ?_⟩
        have : a = .one := by
          have hi := (List.getElem?_eq_some_iff.1 ha).1
          have hmem := List.mem_of_getElem? ha
          simp only [ones21L, List.mem_cons, List.mem_nil_iff, or_false, or_self] at hmem
          exact hmem
        subst this
        exact .one _ (g4 u (List.mem_of_getElem? hu))
    · cases hx
  · cases hx
theorem short_k {m m' : AMem} {args : List AV} {v : AV} (h : shortH args m = some (v, m')) : Kept m m' := by
  unfold shortH at h
  split at h
  · split at h
    · simp only [Option.some.injEq, Prod.mk.injEq] at h
      obtain ⟨_, rfl⟩ := h
      exact Kept.refl _
    · cases h
  · cases h
/-- A run of the law, told as a call. -/
theorem law_case {l0 h0 l1 h1 : Int} {old : Nat → Option Obj} {base : Nat} {cells : List Value} (hs : EvOk old base cells) {n0 n1 day : Int} (hd : -9223372036854775808 ≤ day) (hd' : day ≤ 9223372036854775807)
    (b0 : l0 ≤ n0 ∧ n0 ≤ h0) (b1 : l1 ≤ n1 ∧ n1 ≤ h1) {x y : AV} (hx : x = .sym 0 ∨ x = .int .i64 n0) (hy : y = .sym 1 ∨ y = .int .i64 n1) (hr : ∀ v b o, lawRun l0 h0 l1 h1 v b o x y = true)
    {w : World} (hG : 14 ≤ w.heap.size) (hb : base ≤ w.heap.size) (ho : ∀ k, k < base → w.heap[k]? = old k) :
    Calls Tryz.prog 3 #[.agg #[.int .i64 n0, .int .i64 n1], .agg cells.toArray, .int .i64 day] w fun e w' => e = .returned (.bool true) ∧ Below w.heap.size w w' := by
  let ν : Nat → Int := fun i => if i = 0 then n0 else if i = 1 then n1 else day
  let v : Nat → Value := fun j => (cells[j]?).getD .nilFunc
  have hv : ∀ j u, cells[j]? = some u → v j = u := fun j u hu => by show (cells[j]?).getD .nilFunc = u; rw [hu]; rfl
  have hbd : Bounded (EL l0 h0 l1 h1 v base old) ν := by
    intro i a c h
    have h' : twoB l0 h0 l1 h1 i = some (a, c) := h
    unfold twoB at h'
    split at h'
    · simp only [Option.some.injEq, Prod.mk.injEq] at h'; show a ≤ n0 ∧ n0 ≤ c; omega
    · simp only [Option.some.injEq, Prod.mk.injEq] at h'; show a ≤ n1 ∧ n1 ≤ c; omega
    · cases h'
  have hS : SpecOk (withS (EL l0 h0 l1 h1 v base old) lawS) ν := by
    intro f h hf
    have hm := specOf_mem hf
    have key : HandOk (EL l0 h0 l1 h1 v base old) ν f h := by
      simp only [lawS, List.mem_cons, List.mem_nil_iff, or_false, Prod.mk.injEq] at hm
      rcases hm with ⟨rfl, rfl⟩ | ⟨rfl, rfl⟩ | ⟨rfl, rfl⟩
      · exact memo_ok (by kernel_rfl) (all_cons (sanity_ok ν) all_nil)
      · exact short_ok hs hv ν
      · exact memo_ok (by kernel_rfl) (all_cons (at_all (ν := ν) hd hd') all_nil)
    intro φ B m w args cargs z m' hm' hl hz
    exact key.env (alike_S _ lawS) φ B m w args cargs z m' hm' hl hz
  have hK : SpecK (withS (EL l0 h0 l1 h1 v base old) lawS) := by
    intro f h hf args m z m' hz
    have hm := specOf_mem hf
    simp only [lawS, List.mem_cons, List.mem_nil_iff, or_false, Prod.mk.injEq] at hm
    rcases hm with ⟨rfl, rfl⟩ | ⟨rfl, rfl⟩ | ⟨rfl, rfl⟩
    · exact memo_k hz
    · exact short_k hz
    · exact memo_k hz
  have hrun : RunOk (withS (EL l0 h0 l1 h1 v base old) lawS) ν (run (withS (EL l0 h0 l1 h1 v base old) lawS) 1000000) := run_sound (E := withS (EL l0 h0 l1 h1 v base old) lawS) hbd hS hK (show Tryz.prog.follows .mixedOrders = true from mixed0) 1000000
  have hraw : VRel (phiG 14 v) ν (.agg rawCells) (.agg cells.toArray) := by
    refine VRel.agg' ⟨by rw [raw_len, hs.len], fun i a u ha hu => ?_⟩
    rw [raw_get ha]
    exact .vgood (hv i u hu) (hs.one i u hu)
  have h0' : VRel (phiG 14 v) ν x (.int .i64 n0) := by
    rcases hx with rfl | rfl
    · exact .sym 0
    · exact .int _ _
  have h1' : VRel (phiG 14 v) ν y (.int .i64 n1) := by
    rcases hy with rfl | rfl
    · exact .sym 1
    · exact .int _ _
  have hargs : LRel (phiG 14 v) ν [.agg [x, y], .agg rawCells, .sym 2] [.agg [.int .i64 n0, .int .i64 n1].toArray, .agg cells.toArray, .int .i64 day] :=
    LRel.cons (VRel.agg' (LRel.cons h0' (LRel.cons h1' .nil))) (LRel.cons hraw (LRel.cons (.sym 2) .nil))
  have hr' := hr v base old
  unfold lawRun at hr'
  refine (p_calls (p := sameV (.bool true)) hrun hargs (start_rel (E := withS (EL l0 h0 l1 h1 v base old) lawS) (w := w) hG hb ho) hr').mono fun e w' hq => ?_
  obtain ⟨z, φ', u, rfl, g1, g2, g3⟩ := hq
  have := sameV_eq _ _ g2
  subst this
  rw [g3.bool_inv]
  exact ⟨rfl, g1⟩
end Go.Proofs.YtebegohhjdllpaaGreatDoor
namespace Go.Proofs.YtebegohhjdllpaaGreatDoor
open Go Go.Ev Go.RowKit
theorem law_a : ∀ v b o, lawRun (-9223372036854775808) (9223372036854775807) (-9223372036854775808) (0) v b o (.sym 0) (.sym 1) = true := fun v b o => by kernel_rfl
theorem law_c1high : ∀ v b o, lawRun (2) (9223372036854775807) (1) (1) v b o (.sym 0) (.int .i64 1) = true := fun v b o => by kernel_rfl
theorem law_c2high : ∀ v b o, lawRun (3) (9223372036854775807) (2) (2) v b o (.sym 0) (.int .i64 2) = true := fun v b o => by kernel_rfl
theorem law_c3low : ∀ v b o, lawRun (-9223372036854775808) (0) (3) (3) v b o (.sym 0) (.int .i64 3) = true := fun v b o => by kernel_rfl
theorem law_c3k_2 : ∀ v b o, lawRun (2) (2) (3) (3) v b o (.int .i64 2) (.int .i64 3) = true := fun v b o => by kernel_rfl
theorem law_c4high : ∀ v b o, lawRun (5) (9223372036854775807) (4) (4) v b o (.sym 0) (.int .i64 4) = true := fun v b o => by kernel_rfl
theorem law_c4k_3 : ∀ v b o, lawRun (3) (3) (4) (4) v b o (.int .i64 3) (.int .i64 4) = true := fun v b o => by kernel_rfl
theorem law_c5high : ∀ v b o, lawRun (6) (9223372036854775807) (5) (5) v b o (.sym 0) (.int .i64 5) = true := fun v b o => by kernel_rfl
theorem law_c5k_3 : ∀ v b o, lawRun (3) (3) (5) (5) v b o (.int .i64 3) (.int .i64 5) = true := fun v b o => by kernel_rfl
end Go.Proofs.YtebegohhjdllpaaGreatDoor
