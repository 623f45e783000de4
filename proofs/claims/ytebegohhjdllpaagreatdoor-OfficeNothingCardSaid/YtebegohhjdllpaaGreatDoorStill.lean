/-
  No function starts a goroutine.
-/
import GoSem.ClaimSeven
import Derived.Test.YtebegohhjdllpaaGreatDoorLeads
set_option linter.unusedVariables false
set_option linter.unusedSimpArgs false
namespace Go.Proofs.YtebegohhjdllpaaGreatDoor
open Go Go.Ev
set_option maxRecDepth 100000
noncomputable def noGo (T : Tr Func) (l : List Nat) : Bool := List.rec (motive := fun _ => Bool) true (fun g _ ih => match T.get (toPth g) with
  | some f => match f.goes with
    | true => false
    | false => ih
  | none => ih) l
theorem noGo_ok {T : Tr Func} : ∀ {l : List Nat}, noGo T l = true → ∀ g ∈ l, ∀ f, T.get (toPth g) = some f → f.goes = false := by
  intro l
  induction l with
  | nil => intro _ g h; cases h
  | cons a l ih =>
    intro h g hg f hf
    have e : noGo T (a :: l) = (match T.get (toPth a) with
      | some f => match f.goes with
        | true => false
        | false => noGo T l
      | none => noGo T l) := rfl
    rw [e] at h
    cases hg with
    | head =>
      rw [hf] at h
      simp only at h
      cases q : f.goes with
      | false => rfl
      | true => rw [q] at h; cases h
    | tail _ hg =>
      refine ih ?_ g hg f hf
      split at h
      · split at h
        · cases h
        · exact h
      · exact h
theorem nog0 : noGo (fnT Tryz.prog) (List.range' 0 150) = true := by kernel_rfl
theorem nog1 : noGo (fnT Tryz.prog) (List.range' 150 150) = true := by kernel_rfl
theorem nog2 : noGo (fnT Tryz.prog) (List.range' 300 150) = true := by kernel_rfl
theorem nog3 : noGo (fnT Tryz.prog) (List.range' 450 150) = true := by kernel_rfl
theorem nog4 : noGo (fnT Tryz.prog) (List.range' 600 150) = true := by kernel_rfl
theorem nog5 : noGo (fnT Tryz.prog) (List.range' 750 150) = true := by kernel_rfl
theorem size_funcs : Tryz.prog.funcs.size ≤ 900 := of_decide_eq_true (by kernel_rfl)
theorem noGoes {g : Nat} {f : Func} (h : Tryz.prog.funcs[g]? = some f) : f.goes = false := by
  have hlt : g < 900 := Nat.lt_of_lt_of_le (Array.getElem?_eq_some_iff.1 h).1 size_funcs
  rw [fnT_get] at h
  by_cases h0 : g < 150
  · exact noGo_ok nog0 g (List.mem_range'_1.2 ⟨by omega, by omega⟩) f h
  by_cases h1 : g < 300
  · exact noGo_ok nog1 g (List.mem_range'_1.2 ⟨by omega, by omega⟩) f h
  by_cases h2 : g < 450
  · exact noGo_ok nog2 g (List.mem_range'_1.2 ⟨by omega, by omega⟩) f h
  by_cases h3 : g < 600
  · exact noGo_ok nog3 g (List.mem_range'_1.2 ⟨by omega, by omega⟩) f h
  by_cases h4 : g < 750
  · exact noGo_ok nog4 g (List.mem_range'_1.2 ⟨by omega, by omega⟩) f h
  · exact noGo_ok nog5 g (List.mem_range'_1.2 ⟨by omega, by omega⟩) f h
theorem goes_any {g : Nat} : (Tryz.prog.funcs[g]?).any Func.goes = false := by
  cases h : Tryz.prog.funcs[g]? with
  | none => rfl
  | some f => exact noGoes h
theorem goes3 : Tryz.prog.goes 3 = false := by
  unfold Program.goes
  rw [Bool.or_eq_false_iff]
  refine ⟨?_, ?_⟩
  · rw [List.any_eq_false]
    intro g _
    rw [goes_any]
    exact fun h => by cases h
  · have : Tryz.prog.funcs.any Func.goes = false := by
      rw [Array.any_eq_false]
      intro g hg
      have := noGoes (Array.getElem?_eq_getElem hg)
      rw [this]
      exact fun h => by cases h
    rw [this, Bool.and_false]
theorem named3 : Tryz.prog.funcNamed "tithing/tithinglaw37.OfficeNothing" = some 3 := by kernel_rfl
theorem goesBy_of {c : OpenClaim} {P : Program} {f : Nat} (hs : c.start = .entering) (hf : P.funcNamed c.func = some f) (hg : P.goes f = false) : false = c.goesBy P := by
  unfold OpenClaim.goesBy Program.goesAt Program.goesFrom
  rw [hs, hf, Option.any_some, hg]
  rfl
theorem goes0 : false = Rows.officeNothingRow.goesBy Tryz.checked.prog := goesBy_of (P := Tryz.checked.prog) rfl named3 goes3
end Go.Proofs.YtebegohhjdllpaaGreatDoor
