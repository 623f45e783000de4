import Derived.Test.YtebegohhjdllpaaGreatDoorRows
import Derived.LaidByTextLater
import Derived.SevenTiedAt
import Derived.LaidSub
import Derived.LaidOnce
import Derived.Test.YtebegohhjdllpaaGreatDoorTiedA
import Derived.Test.YtebegohhjdllpaaGreatDoorTiedB
import Derived.Test.YtebegohhjdllpaaGreatDoorTiedC
import Derived.Test.YtebegohhjdllpaaGreatDoorTiedE
namespace Go.Proofs.YtebegohhjdllpaaGreatDoor
open Go
set_option maxRecDepth 100000
set_option linter.unusedVariables false
/-- The reading of a list of variables: where it stands, each place once, and within the blocks 'bs'. -/
def ReadsAs (P : Program) (w : World) (l : List (String × DataW Unit)) (bs : List Nat) : Prop :=
  ∃ ps, DataW.laidRun P w 8 (l.map (·.1)) = some (l, ps) ∧ ps.Nodup ∧ laidRowsB P w ps = true ∧ ∀ p ∈ ps, ∃ b o, p = MemPlace.cell b o ∧ b ∈ bs

theorem ReadsAs.nil {P : Program} {w : World} : ReadsAs P w [] [] := ⟨[], rfl, List.nodup_nil, rfl, fun _ h => by cases h⟩

theorem ReadsAs.one {w : World} {n : String} {d : DataW Unit} {bs : List Nat}
    (h : (DataW.laidRun Tryz.prog w 8 [n]).map (fun x => (x.1, oneB w bs x.2)) = some ([(n, d)], true)) : ReadsAs Tryz.prog w [(n, d)] bs := by
  simp only [Option.map_eq_some_iff, Prod.mk.injEq] at h
  obtain ⟨⟨l, ps⟩, hl, rfl, hb⟩ := h
  unfold oneB at hb
  simp only [Bool.and_eq_true, List.all_eq_true] at hb
  refine ⟨ps, hl, (nodupBits_sound hb.1.1).1, hb.1.2, fun p hp => ?_⟩
  have := hb.2 p hp
  cases p with
  | cell b o => exact ⟨b, o, rfl, List.elem_iff.1 this⟩
  | map b => cases this

theorem ReadsAs.cons {P : Program} {w : World} {n : String} {d : DataW Unit} {l : List (String × DataW Unit)} {bs cs : List Nat}
    (h : ReadsAs P w [(n, d)] bs) (k : ReadsAs P w l cs) (hd : (bs.all fun b => !cs.elem b) = true) : ReadsAs P w ((n, d) :: l) (bs ++ cs) := by
  obtain ⟨ps, h1, h2, h3, h4⟩ := h
  obtain ⟨qs, k1, k2, k3, k4⟩ := k
  refine ⟨ps ++ qs, ?_, ?_, ?_, ?_⟩
  · simp only [List.map_cons, List.map_nil] at h1 ⊢
    unfold DataW.laidRun at h1 ⊢
    cases hg : P.globalNamed n with
    | none => rw [hg] at h1; cases h1
    | some g =>
      rw [hg] at h1
      simp only at h1 ⊢
      split at h1
      · rename_i t cs' ht hcs
        split at h1
        · rename_i x y hx hy
          simp only [hx, k1]
          unfold DataW.laidRun at hy
          obtain rfl := Option.some.inj hy
          simp only [Option.some.injEq, Prod.mk.injEq, List.cons.injEq, true_and, and_true, List.append_nil] at h1 ⊢
          exact ⟨h1.1, by rw [h1.2]⟩
        · cases h1
      · cases h1
  · refine List.nodup_append.2 ⟨h2, k2, fun p hp q hq e => ?_⟩
    obtain ⟨b, o, rfl, hb⟩ := h4 p hp
    obtain ⟨b', o', rfl, hb'⟩ := k4 q hq
    have := List.all_eq_true.1 hd b hb
    cases e
    rw [List.elem_iff.2 hb'] at this
    cases this
  · unfold laidRowsB at h3 k3 ⊢
    rw [List.all_append, h3, k3]
    rfl
  · intro p hp
    rcases List.mem_append.1 hp with hp | hp
    · obtain ⟨b, o, e, hb⟩ := h4 p hp
      exact ⟨b, o, e, List.mem_append.2 (.inl hb)⟩
    · obtain ⟨b, o, e, hb⟩ := k4 p hp
      exact ⟨b, o, e, List.mem_append.2 (.inr hb)⟩

theorem lf1 : funcsListed L12 = [] := by kernel_rfl
theorem lf2 : (L12.filter fun x => x.2.handleName?.isSome && x.2.funcsIn?.isNone) = [] := by kernel_rfl
theorem lf3 : (L12.filter fun x => x.2.handleName?.isNone) = L12 := by kernel_rfl

theorem lread (os : Os) (tape : Tape) : ∃ bs, ReadsAs Tryz.prog (wT os tape) L12 bs :=
  ⟨_, ((ReadsAs.one (lone0 os tape)).cons ((ReadsAs.one (lone1 os tape)).cons ((ReadsAs.one (lone2 os tape)).cons ((ReadsAs.one (lone3 os tape)).cons ((ReadsAs.one (lone4 os tape)).cons ((ReadsAs.one (lone5 os tape)).cons ((ReadsAs.one (lone6 os tape)).cons ((ReadsAs.one (lone7 os tape)).cons ((ReadsAs.one (lone8 os tape)).cons ((ReadsAs.one (lone9 os tape)).cons ((ReadsAs.one (lone10 os tape)).cons ((ReadsAs.one (lone11 os tape)).cons ReadsAs.nil rfl) rfl) rfl) rfl) rfl) rfl) rfl) rfl) rfl) rfl) rfl) rfl)⟩

theorem lmet (os : Os) (tape : Tape) : laidMetH Tryz.prog L12 (wT os tape) := by
  obtain ⟨bs, ps, h1, h2, h3, -⟩ := lread os tape
  refine laidMetH_of_parts3 (fuel := 8) ?_ ?_ ?_
  · rw [lf3]
    exact laidMet_of_run 8 h1 (decide_eq_true h2) h3
  · rw [lf2]
    rfl
  · rw [lf1]
    rfl

theorem laidGlue {P : Program} {laid : List (String × DataW Unit)} {kinds : List LaidKind} {tests : Bool} (g n : Nat)
    (hw : P.worded (varsWordLater tests) = true) (hw' : P.worded (varsWordLater !tests) = false) (hroot : P.worded rootWordLater = true) (hk : laid.map (fun x => P.kindOfLater x.1) = kinds.map some)
    (hg : P.funcNamed "gosem.cut.vars" = some g) (hn : varsNamedLaterB P g laid = true)
    (hrun : ∀ os tape, ∃ v w, runN P n (Machine.entering P (World.unlaid P os) tape g ⟨#[], #[], []⟩) = .ended (.done v) w ∧ laidMetH P laid w.memory) : P.laidByTextLater laid kinds tests := by
  unfold varsNamedLaterB at hn
  cases hc : (P.funcs[g]?).bind (·.body) with
  | none => simp [hc] at hn
  | some code =>
   cases hs : code.laysInOrder [] with
   | none => simp [hc, hs] at hn
   | some stored =>
    simp only [hc, hs, Bool.and_eq_true] at hn
    refine ⟨⟨hw, hw', hroot, hk⟩, g, code, stored, hg, hc, ⟨hs, hn.1.1, hn.1.2⟩, hn.2, fun os tape _ => ?_⟩
    obtain ⟨v, w, hr, hm⟩ := hrun os tape
    exact ⟨n, v, w, hr, hm⟩

theorem ltie : Tryz.prog.laidByTextLater L12 [.data, .data, .data, .data, .sentinel, .sentinel, .widerDeep, .data, .data, .data, .data, .data] true :=
  laidGlue 874 129 lw1 lw2 lw3 lk lname (lid ▸ ln) fun os tape => by
    have hd := ldone os tape
    have hm := lmet os tape
    unfold wT at hm
    generalize hr : endT os tape = z at hd hm
    cases z with
    | next m => cases hd
    | ended o w =>
      cases o with
      | done v => exact ⟨v, w, hr, hm⟩
      | _ => cases hd

theorem row_tied : Rows.officeNothingRow.laidByTextAt .later Tryz.pinned [.data, .data, .data, .data, .sentinel, .sentinel, .widerDeep, .data, .data, .data, .data, .data, .pinned] true :=
  OpenClaim.laidByTextAt_pinned rfl rfl ltie rfl rfl rfl rfl (fun y hy _e => by
    simp only [Rows.officeNothingRow, List.zip_cons_cons, List.zip_nil_right, List.mem_cons, List.mem_nil_iff, or_false] at hy
    rcases hy with rfl | rfl | rfl | rfl | rfl | rfl | rfl | rfl | rfl | rfl | rfl | rfl | rfl
    · cases _e
    · cases _e
    · cases _e
    · cases _e
    · cases _e
    · cases _e
    · cases _e
    · cases _e
    · cases _e
    · cases _e
    · cases _e
    · cases _e
    · exact ⟨lpin, by kernel_rfl⟩) lfits
end Go.Proofs.YtebegohhjdllpaaGreatDoor
