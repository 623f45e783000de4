/-
  Short, on every event.
-/
import Derived.Test.YtebegohhjdllpaaGreatDoorEvJ
import Derived.Test.YtebegohhjdllpaaGreatDoorBase
set_option linter.unusedVariables false
set_option linter.unusedSimpArgs false
namespace Go.Proofs.YtebegohhjdllpaaGreatDoor
open Go Go.Ev Go.RowKit
def kBind : List Kd := [.str, .one, .str, .str]
def kNode : List Kd := [.one, .one, .str, .str, .str]
/-- The environment over the memory that came in. -/
noncomputable def EV (v : Nat → Value) (b : Nat) (o : Nat → Option Obj) : Env := ⟨Tryz.prog, 14, fun _ => none, joinP, fun _ => none, v, b, o⟩
theorem binds_nil : allP leafB (callA (withS E0 []) 1000000 27 [.nilSlice] (startOf 14)) = true := by kernel_rfl
theorem binds_empty : ∀ c, allP leafB (callA (withS E0 []) 1000000 27 [.slice 14 0 0 (.exact c)] (startY 14)) = true := fun c => by kernel_rfl
theorem binds_row : ∀ v b o, allP leafB (callA (withS (EV v b o) []) 1000000 27 [.vsl 14] (startX 14 (mkRow kBind 4 0 88 0) 4)) = true := fun v b o => by kernel_rfl
end Go.Proofs.YtebegohhjdllpaaGreatDoor
namespace Go.Proofs.YtebegohhjdllpaaGreatDoor
open Go Go.Ev Go.RowKit
theorem nodes_nil : allP leafB (callA (withS E0 []) 1000000 28 [.nilSlice] (startOf 14)) = true := by kernel_rfl
theorem nodes_empty : ∀ c, allP leafB (callA (withS E0 []) 1000000 28 [.slice 14 0 0 (.exact c)] (startY 14)) = true := fun c => by kernel_rfl
theorem nodes_row : ∀ v b o, allP leafB (callA (withS (EV v b o) []) 1000000 28 [.vsl 14] (startX 14 (mkRow kNode 5 0 320 0) 5)) = true := fun v b o => by kernel_rfl
end Go.Proofs.YtebegohhjdllpaaGreatDoor
namespace Go.Proofs.YtebegohhjdllpaaGreatDoor
open Go Go.Ev Go.RowKit
def kEdit : List Kd := [.one, .str, .one, .one, .str, .str, .str, .one, .one, .one, .good, .one, .one, .str, .str, .one, .str, .str, .one, .one, .one, .one, .str, .one, .one, .one]
def kEvent : List Kd := [.one, .one, .one, .one, .one, .one, .one, .one, .one, .str, .one, .str, .str, .good, .good, .one, .one, .one, .one]
/-- A call on a list that came in. -/
noncomputable def goodH (js : List Nat) : Handler := fun args m => match args with
  | [.vgood j] => match memN j js with
    | true => some (.one, m)
    | false => none
  | _ => none
noncomputable def listS : List (Nat × Handler) := [(27, goodH [13, 14]), (28, goodH [20, 110, 136, 162])]
/-- The event, by its list of edits. -/
noncomputable def evWith (x : AV) : AV := .agg (mkRow kEvent 19 0 19 0 ++ [x, .vgood 20])
noncomputable def ones21 : AV → Bool
  | .agg cs => Nat.beq (lenL cs) 21 && leaves cs
  | _ => false
theorem short_nil : ∀ v b o, allP ones21 (callA (withS (EV v b o) listS) 1000000 7 [evWith .nilSlice] (startOf 14)) = true := fun v b o => by kernel_rfl
theorem short_empty : ∀ c v b o, allP ones21 (callA (withS (EV v b o) listS) 1000000 7 [evWith (.slice 14 0 0 (.exact c))] (startY 14)) = true := fun c v b o => by kernel_rfl
theorem short_row : ∀ v b o, allP ones21 (callA (withS (EV v b o) listS) 1000000 7 [evWith (.vsl 14)] (startX 14 (mkRow kEdit 26 100 78 0) 26)) = true := fun v b o => by kernel_rfl
end Go.Proofs.YtebegohhjdllpaaGreatDoor
namespace Go.Proofs.YtebegohhjdllpaaGreatDoor
open Go Go.Ev Go.RowKit
theorem list_calls {f sz N n : Nat} {k : List Kd} (hnil : allP leafB (callA (withS E0 []) n f [.nilSlice] (startOf 14)) = true)
    (hempty : ∀ c, allP leafB (callA (withS E0 []) n f [.slice 14 0 0 (.exact c)] (startY 14)) = true)
    (hrow : ∀ v b o, allP leafB (callA (withS (EV v b o) []) n f [.vsl 14] (startX 14 (mkRow k sz 0 N 0) sz)) = true)
    {old : Nat → Option Obj} {base : Nat} {v : Value} (hs : SlOk old base sz k (fun _ _ => True) v) {w : World} (hG : 14 ≤ w.heap.size) (hb : base ≤ w.heap.size) (ho : ∀ k, k < base → w.heap[k]? = old k) :
    Calls Tryz.prog f #[v] w fun e w' => ∃ y, e = .returned y ∧ Below w.heap.size w w' ∧ y.oneCell' = true := by
  have fin : ∀ {e : Ending} {w' : World}, (∃ x φ' v, e = .returned x ∧ Below w.heap.size w w' ∧ leafB v = true ∧ VRel φ' (fun _ => 0) v x) → ∃ y, e = .returned y ∧ Below w.heap.size w w' ∧ y.oneCell' = true := by
    rintro e w' ⟨x, φ', v, h1, h2, h3, h4⟩
    exact ⟨x, h1, h2, leaf_oneCell h3 h4⟩
  have hrun : RunOk (withS E0 []) (fun _ => 0) (run (withS E0 []) n) := SpecsOk.nil.run mixed0 (bounded_none rfl)
  cases hs with
  | nil => exact (p_calls hrun (args := [.nilSlice]) (cargs := [.slice none 0 0]) (LRel.cons .nilSlice .nil) (start_rel (E := withS E0 []) (w := w) hG (Nat.zero_le _) (fun k hk => absurd hk (Nat.not_lt_zero _))) hnil).mono fun e w' h => fin h
  | @empty a c ha =>
    by_cases h0 : c = 0
    · subst h0
      exact (p_calls hrun (args := [.slice 14 0 0 (.exact 0)]) (cargs := [.slice (some a) 0 0]) (LRel.cons (.sliceE (Phi.put_self _ _ _) (fun q => absurd rfl q) (Nat.le_refl _)) .nil)
        (start_relY (E := withS E0 []) (w := w) (L := ⟨0, 0, 0⟩) hG (Nat.zero_le _) (fun k hk => absurd hk (Nat.not_lt_zero _)) (by show 0 < w.heap.size; omega)) (hempty 0)).mono fun e w' h => fin h
    · obtain ⟨h1, h2⟩ := ha h0
      exact (p_calls hrun (args := [.slice 14 0 0 (.exact c)]) (cargs := [.slice (some a) 0 c]) (LRel.cons (.sliceE (Phi.put_self _ _ _) (fun _ => by obtain ⟨ab, ao, sp⟩ := a; simp only at h1; subst h1; rfl) (Nat.zero_le _)) .nil)
        (start_relY (E := withS E0 []) (w := w) (L := ⟨a.block, a.off, 0⟩) hG (Nat.zero_le _) (fun k hk => absurd hk (Nat.not_lt_zero _)) (by show a.block < w.heap.size; omega)) (hempty c)).mono fun e w' h => fin h
  | @row b off m c ty cc fz hlt hle hold hcells =>
    have hrun' : RunOk (withS (EV (valsOf cc off (m * sz)) base old) []) (fun _ => 0) (run (withS (EV (valsOf cc off (m * sz)) base old) []) n) := SpecsOk.nil.run mixed0 (bounded_none rfl)
    refine (p_calls hrun' (args := [.vsl 14]) (cargs := [.slice (some ⟨b, off, none⟩) m c]) (LRel.cons (.vsl (Phi.put_self _ _ _) (L := ⟨b, off, m⟩) (fun _ => rfl) hle) .nil)
      (start_relX (E := withS (EV (valsOf cc off (m * sz)) base old) []) (w := w) (L := ⟨b, off, m⟩) hG hb ho (by show b < w.heap.size; omega) ⟨_, (ho b hlt).trans hold, ?_⟩) (hrow _ _ _)).mono fun e w' h => fin h
    exact row_obj (b0 := 0) (fun i hi => let ⟨u, h1, h2, _⟩ := hcells i hi; ⟨u, h1, h2⟩) (fun i hi u hu => by rw [Nat.zero_add]; exact valsOf_get hu hi)
theorem binds_calls {old : Nat → Option Obj} {base : Nat} {v : Value} (hs : SlOk old base 4 kBind (fun _ _ => True) v) {w : World} (hG : 14 ≤ w.heap.size) (hb : base ≤ w.heap.size) (ho : ∀ k, k < base → w.heap[k]? = old k) :
    Calls Tryz.prog 27 #[v] w fun e w' => ∃ y, e = .returned y ∧ Below w.heap.size w w' ∧ y.oneCell' = true := list_calls binds_nil binds_empty binds_row hs hG hb ho
theorem nodes_calls {old : Nat → Option Obj} {base : Nat} {v : Value} (hs : SlOk old base 5 kNode (fun _ _ => True) v) {w : World} (hG : 14 ≤ w.heap.size) (hb : base ≤ w.heap.size) (ho : ∀ k, k < base → w.heap[k]? = old k) :
    Calls Tryz.prog 28 #[v] w fun e w' => ∃ y, e = .returned y ∧ Below w.heap.size w w' ∧ y.oneCell' = true := list_calls nodes_nil nodes_empty nodes_row hs hG hb ho
theorem good_ok {v : Nat → Value} {b : Nat} {o : Nat → Option Obj} {f : Nat} {js : List Nat} (he : enters Tryz.prog f = true)
    (h : ∀ j ∈ js, ∀ w : World, 14 ≤ w.heap.size → b ≤ w.heap.size → (∀ k, k < b → w.heap[k]? = o k) → Calls Tryz.prog f #[v j] w fun e w' => ∃ y, e = .returned y ∧ Below w.heap.size w w' ∧ y.oneCell' = true) (ν : Nat → Int) :
    HandOk (EV v b o) ν f (goodH js) := by
  intro φ B m w args cargs x m' hm hl hx
  unfold goodH at hx
  split at hx
  · rename_i j
    split at hx
    · rename_i hj
      simp only [Option.some.injEq, Prod.mk.injEq] at hx
      obtain ⟨rfl, rfl⟩ := hx
      obtain ⟨c, cs, rfl, q1, q2⟩ := hl.cons_inv
      rw [q2.nil_inv]
      have hc : c = v j := by
        cases q1 with
        | vgood h1 _ => rw [← h1, hm.vals]; rfl
      subst hc
      exact hand_of (args := []) (cargs := [v j]) he hm (h j ((memN_mem _ _).1 hj) w hm.sizeG (Nat.le_trans hm.bas hm.base) hm.old) (fun y hy => .one _ hy)
    · cases hx
  · cases hx
theorem good_k {js : List Nat} {m m' : AMem} {args : List AV} {v : AV} (h : goodH js args m = some (v, m')) : Kept m m' := by
  unfold goodH at h
  split at h
  · split at h
    · simp only [Option.some.injEq, Prod.mk.injEq] at h
      obtain ⟨_, rfl⟩ := h
      exact Kept.refl _
    · cases h
  · cases h
/-- An event that came in: what is asked of its cells. -/
structure EvOk (old : Nat → Option Obj) (base : Nat) (cells : List Value) : Prop where
  len : cells.length = 21
  plain : ∀ j, j < 19 → ∃ u, cells[j]? = some u ∧ ∀ kd, kEvent[j]? = some kd → KdOk kd u
  facts : ∀ u, cells[13]? = some u → SlOk old base 4 kBind (fun _ _ => True) u
  more : ∀ u, cells[14]? = some u → SlOk old base 4 kBind (fun _ _ => True) u
  edits : ∀ u, cells[19]? = some u → SlOk old base 26 kEdit (fun j x => j = 10 → SlOk old base 5 kNode (fun _ _ => True) x) u
  body : ∀ u, cells[20]? = some u → u.oneCell' = true ∧ SlOk old base 5 kNode (fun _ _ => True) u
theorem short_calls {old : Nat → Option Obj} {base : Nat} {cells : List Value} (hs : EvOk old base cells) {w : World} (hG : 14 ≤ w.heap.size) (hb : base ≤ w.heap.size) (ho : ∀ k, k < base → w.heap[k]? = old k) :
    Calls Tryz.prog 7 #[.agg cells.toArray] w fun e w' => ∃ y : List Value, e = .returned (.agg y.toArray) ∧ Below w.heap.size w w' ∧ y.length = 21 ∧ ∀ u ∈ y, u.oneCell' = true := by
  have fin : ∀ {e : Ending} {w' : World}, (∃ x φ' v, e = .returned x ∧ Below w.heap.size w w' ∧ ones21 v = true ∧ VRel φ' (fun _ => 0) v x) →
      ∃ y : List Value, e = .returned (.agg y.toArray) ∧ Below w.heap.size w w' ∧ y.length = 21 ∧ ∀ u ∈ y, u.oneCell' = true := by
    rintro e w' ⟨x, φ', v, h1, h2, h3, h4⟩
    unfold ones21 at h3
    split at h3
    · rename_i cs
      rw [Bool.and_eq_true] at h3
      obtain ⟨g1, g2⟩ := h3
      obtain ⟨ds, rfl, hl⟩ := h4.agg_inv
      have := nat_beq g1
      rw [lenL_eq] at this
      refine ⟨ds, h1, h2, by rw [← hl.1]; exact this, fun u hu => ?_⟩
      obtain ⟨i, hi⟩ := List.mem_iff_getElem?.1 hu
      have hlt : i < cs.length := by rw [hl.1]; exact (List.getElem?_eq_some_iff.1 hi).1
      exact leaf_oneCell (leaves_mem g2 _ (List.getElem_mem hlt)) (hl.2 i _ u (List.getElem?_eq_getElem hlt) hi)
    · cases h3
  obtain ⟨c19, h19⟩ : ∃ u, cells[19]? = some u := ⟨_, List.getElem?_eq_getElem (by rw [hs.len]; omega)⟩
  obtain ⟨c20, h20⟩ : ∃ u, cells[20]? = some u := ⟨_, List.getElem?_eq_getElem (by rw [hs.len]; omega)⟩
  obtain ⟨c13, h13⟩ : ∃ u, cells[13]? = some u := ⟨_, List.getElem?_eq_getElem (by rw [hs.len]; omega)⟩
  obtain ⟨c14, h14⟩ : ∃ u, cells[14]? = some u := ⟨_, List.getElem?_eq_getElem (by rw [hs.len]; omega)⟩
  have hsplit : cells = cells.take 19 ++ [c19, c20] := by
    apply List.ext_getElem?
    intro i
    by_cases hi : i < 19
    · rw [List.getElem?_append_left (by rw [List.length_take, hs.len]; omega), List.getElem?_take, if_pos hi]
    · rw [List.getElem?_append_right (by rw [List.length_take, hs.len]; omega), List.length_take, hs.len]
      by_cases h1 : i = 19
      · subst h1; rw [h19]; rfl
      · by_cases h2 : i = 20
        · subst h2; rw [h20]; rfl
        · rw [List.getElem?_eq_none (by rw [hs.len]; omega), List.getElem?_eq_none (by simp; omega)]
  have hlen : (mkRow kEvent 19 0 19 0).length = 19 := by kernel_rfl
  -- the event, as the machine takes it
  have arg : ∀ {φ : Phi} {x : AV}, (∀ j u, cells[j]? = some u → φ.val j = u) → VRel φ (fun _ => 0) x c19 → LRel φ (fun _ => 0) [evWith x] [.agg cells.toArray] := by
    intro φ x hv hx
    refine LRel.cons ?_ .nil
    rw [hsplit]
    refine VRel.agg' (LRel.append ⟨by rw [hlen, List.length_take, hs.len]; rfl, fun i a u ha hu => ?_⟩ (LRel.cons hx (LRel.cons (.vgood (hv 20 c20 h20) (hs.body c20 h20).1) .nil)))
    obtain ⟨kd, g1, rfl⟩ := mkRow_get ha
    rw [List.getElem?_take] at hu
    split at hu
    · rename_i hi
      rw [Nat.zero_add] at g1 ⊢
      rw [Nat.zero_add]
      rw [Nat.mod_eq_of_lt hi] at g1
      obtain ⟨u', e1, e2⟩ := hs.plain i hi
      rw [hu] at e1
      simp only [Option.some.injEq] at e1
      subst e1
      exact cellK_rel (hv i u hu) (e2 kd g1)
    · cases hu
  -- the contracts below
  have specs : ∀ v : Nat → Value, (∀ j u, cells[j]? = some u → v j = u) → (∀ j, j = 110 ∨ j = 136 ∨ j = 162 → SlOk old base 5 kNode (fun _ _ => True) (v j)) → SpecsOk (EV v base old) listS := by
    intro v hv hn
    refine (SpecsOk.nil.cons (fun ν => good_ok (by kernel_rfl) (fun j hj w' g1 g2 g3 => ?_) ν) (fun _ _ _ _ => good_k)).cons (fun ν => good_ok (by kernel_rfl) (fun j hj w' g1 g2 g3 => ?_) ν) (fun _ _ _ _ => good_k)
    · refine nodes_calls ?_ g1 g2 g3
      simp only [List.mem_cons, List.mem_nil_iff, or_false] at hj
      rcases hj with rfl | hj
      · rw [hv 20 c20 h20]; exact (hs.body c20 h20).2
      · exact hn j hj
    · refine binds_calls ?_ g1 g2 g3
      simp only [List.mem_cons, List.mem_nil_iff, or_false] at hj
      rcases hj with rfl | rfl
      · rw [hv 13 c13 h13]; exact hs.facts c13 h13
      · rw [hv 14 c14 h14]; exact hs.more c14 h14
  have big : ∀ j u, cells[j]? = some u → j < 100 := fun j u hu => by
    have := (List.getElem?_eq_some_iff.1 hu).1
    rw [hs.len] at this
    omega
  -- where there are no edits
  let v0 : Nat → Value := fun j => if j < 100 then (cells[j]?).getD (.slice none 0 0) else .slice none 0 0
  have hv0 : ∀ j u, cells[j]? = some u → v0 j = u := fun j u hu => by
    show (if j < 100 then (cells[j]?).getD (.slice none 0 0) else .slice none 0 0) = u
    rw [if_pos (big j u hu), hu]; rfl
  have hn0 : ∀ j, j = 110 ∨ j = 136 ∨ j = 162 → SlOk old base 5 kNode (fun _ _ => True) (v0 j) := by
    intro j hj
    show SlOk old base 5 kNode (fun _ _ => True) (if j < 100 then (cells[j]?).getD (.slice none 0 0) else .slice none 0 0)
    rw [if_neg (by omega)]
    exact .nil
  have hrun0 : RunOk (withS (EV v0 base old) listS) (fun _ => 0) (run (withS (EV v0 base old) listS) 1000000) := (specs v0 hv0 hn0).run mixed0 (bounded_none rfl)
  have he := hs.edits c19 h19
  cases he with
  | nil =>
    exact (p_calls hrun0 (arg (φ := phiG 14 v0) hv0 .nilSlice) (start_rel (E := withS (EV v0 base old) listS) (w := w) hG hb ho) (short_nil _ _ _)).mono fun e w' h => fin h
  | @empty a c ha =>
    by_cases h0 : c = 0
    · subst h0
      exact (p_calls hrun0 (arg (φ := (phiG 14 v0).put 14 ⟨0, 0, 0⟩) hv0 (.sliceE (Phi.put_self _ _ _) (fun q => absurd rfl q) (Nat.le_refl _)))
        (start_relY (E := withS (EV v0 base old) listS) (w := w) (L := ⟨0, 0, 0⟩) hG hb ho (by show 0 < w.heap.size; omega)) (short_empty 0 _ _ _)).mono fun e w' h => fin h
    · obtain ⟨h1, h2⟩ := ha h0
      exact (p_calls hrun0 (arg (φ := (phiG 14 v0).put 14 ⟨a.block, a.off, 0⟩) hv0 (.sliceE (Phi.put_self _ _ _) (fun _ => by obtain ⟨ab, ao, sp⟩ := a; simp only at h1; subst h1; rfl) (Nat.zero_le _)))
        (start_relY (E := withS (EV v0 base old) listS) (w := w) (L := ⟨a.block, a.off, 0⟩) hG hb ho (by show a.block < w.heap.size; omega)) (short_empty c _ _ _)).mono fun e w' h => fin h
  | @row b off n c ty cc fz hlt hle hold hcells =>
    let v1 : Nat → Value := fun j => if j < 100 then (cells[j]?).getD (.slice none 0 0) else valsOf cc off (n * 26) (j - 100)
    have hv1 : ∀ j u, cells[j]? = some u → v1 j = u := fun j u hu => by
      show (if j < 100 then (cells[j]?).getD (.slice none 0 0) else valsOf cc off (n * 26) (j - 100)) = u
      rw [if_pos (big j u hu), hu]; rfl
    have hn1 : ∀ j, j = 110 ∨ j = 136 ∨ j = 162 → SlOk old base 5 kNode (fun _ _ => True) (v1 j) := by
      intro j hj
      show SlOk old base 5 kNode (fun _ _ => True) (if j < 100 then (cells[j]?).getD (.slice none 0 0) else valsOf cc off (n * 26) (j - 100))
      rw [if_neg (by omega)]
      unfold valsOf
      split
      · rename_i u hu
        split
        · rename_i hi
          obtain ⟨u', g1, _, g3⟩ := hcells (j - 100) hi
          rw [hu] at g1
          simp only [Option.some.injEq] at g1
          subst g1
          exact g3 (by omega)
        · exact .nil
      · exact .nil
    have hrun1 : RunOk (withS (EV v1 base old) listS) (fun _ => 0) (run (withS (EV v1 base old) listS) 1000000) := (specs v1 hv1 hn1).run mixed0 (bounded_none rfl)
    refine (p_calls hrun1 (arg (φ := (phiG 14 v1).put 14 ⟨b, off, n⟩) hv1 (.vsl (Phi.put_self _ _ _) (L := ⟨b, off, n⟩) (fun _ => rfl) hle))
      (start_relX (E := withS (EV v1 base old) listS) (w := w) (L := ⟨b, off, n⟩) hG hb ho (by show b < w.heap.size; omega) ⟨_, (ho b hlt).trans hold, ?_⟩) (short_row _ _ _)).mono fun e w' h => fin h
    refine row_obj (b0 := 100) (fun i hi => let ⟨u, h1, h2, _⟩ := hcells i hi; ⟨u, h1, h2⟩) (fun i hi u hu => ?_)
    show (if 100 + i < 100 then (cells[100 + i]?).getD (.slice none 0 0) else valsOf cc off (n * 26) (100 + i - 100)) = u
    rw [if_neg (by omega), Nat.add_sub_cancel_left]
    exact valsOf_get hu hi
end Go.Proofs.YtebegohhjdllpaaGreatDoor
