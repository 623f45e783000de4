/-
  The law, in the frame of the statement.
-/
import Derived.Carry
import Derived.MakeChecks
import Derived.ProofKit
import Derived.Test.YtebegohhjdllpaaGreatDoorLawC
import Derived.Test.YtebegohhjdllpaaGreatDoorEvJ
set_option linter.unusedVariables false
set_option linter.unusedSimpArgs false
namespace Go.Proofs.YtebegohhjdllpaaGreatDoor
open Go Go.Ev Go.RowKit
def fkBind : List FK := [.str, .one, .str, .str]
def fkNode : List FK := [.one, .one, .str, .str, .str]
def fkEdit : List FK := [.one, .str, .one, .one, .str, .str, .str, .one, .one, .one, .sl 185, .one, .one, .str, .str, .one, .str, .str, .str, .one, .one, .sl 401, .str, .one, .one, .one]
def fkEvent : List FK := [.one, .one, .one, .one, .one, .one, .one, .one, .one, .str, .one, .str, .str, .sl 183, .sl 183, .one, .one, .one, .one, .sl 93, .sl 185]
theorem flatBind : flat Tryz.prog 8 183 = some fkBind := by kernel_rfl
theorem flatNode : flat Tryz.prog 8 185 = some fkNode := by kernel_rfl
theorem flatEdit : flat Tryz.prog 8 93 = some fkEdit := by kernel_rfl
theorem flatEvent : flat Tryz.prog 8 34 = some fkEvent := by kernel_rfl
theorem cells183 : Tryz.prog.cellsOf 183 = 4 := by kernel_rfl
theorem cells185 : Tryz.prog.cellsOf 185 = 5 := by kernel_rfl
theorem cells93 : Tryz.prog.cellsOf 93 = 26 := by kernel_rfl
theorem cells34 : Tryz.prog.cellsOf 34 = 21 := by kernel_rfl
def isStruct : Option TypeDesc → Bool
  | some (.struct _) => true
  | _ => false
theorem isStruct_ok {o : Option TypeDesc} (h : isStruct o = true) : ∃ fs, o = some (.struct fs) := by
  unfold isStruct at h
  split at h
  · exact ⟨_, rfl⟩
  · cases h
theorem struct34 : ∃ fs, Tryz.prog.underlying 34 = some (.struct fs) := isStruct_ok (by kernel_rfl)
section
variable {H : Type} {enc : TypeId × Value → H} {w : World}
theorem ev_open {cs : Array Value} {d : DataW H} {p : List MemPlace} (h : DataW.Trod enc Tryz.prog w 0 (fun _ => true) true 34 (.agg cs) d p) : EvOk (fun b => w.heap[b]?) w.heap.size cs.toList := by
  obtain ⟨fuel, h⟩ := h
  have h' : DataW.trod enc Tryz.prog w 0 (fun _ => true) true fuel 34 cs.toList = some (d, p) := h
  have hl : cs.toList.length = 21 := by
    obtain ⟨fs, hs⟩ := struct34
    obtain ⟨_, _, _, _, hl, _⟩ := DataW.trod_struct hs h'
    rw [hl, cells34]
  have get : ∀ (i : Nat) (k : FK), fkEvent[i]? = some k → ∃ u, cs.toList[i]? = some u ∧ FOk enc Tryz.prog w true k u := fun i k hk => flat_ok flatEvent h' i k hk
  have at' : ∀ {i : Nat} {k : FK} {u : Value}, fkEvent[i]? = some k → cs.toList[i]? = some u → FOk enc Tryz.prog w true k u := by
    intro i k u hk hu
    obtain ⟨u', q1, q2⟩ := get i k hk
    rw [q1] at hu
    simp only [Option.some.injEq] at hu
    subst hu; exact q2
  have nodes : ∀ u, FOk enc Tryz.prog w true (.sl 185) u → SlOk (fun b => w.heap[b]?) w.heap.size 5 kNode (fun _ _ => True) u :=
    fun u hu => slOk_of cells185 (by omega) flatNode rfl rfl (fun _ _ _ _ _ => trivial) hu
  have binds : ∀ u, FOk enc Tryz.prog w true (.sl 183) u → SlOk (fun b => w.heap[b]?) w.heap.size 4 kBind (fun _ _ => True) u :=
    fun u hu => slOk_of cells183 (by omega) flatBind rfl rfl (fun _ _ _ _ _ => trivial) hu
  refine ⟨hl, fun j hj => ?_, fun u hu => binds u (at' (k := .sl 183) rfl hu), fun u hu => binds u (at' (k := .sl 183) rfl hu), fun u hu => ?_, fun u hu => ?_⟩
  · have hlt : j < fkEvent.length := by show j < 21; omega
    obtain ⟨u, q1, q2⟩ := get j _ (List.getElem?_eq_getElem hlt)
    exact ⟨u, q1, fun kd hkd => kdsB_ok (ks := kEvent) (fs := fkEvent) rfl hkd (List.getElem?_eq_getElem hlt) q2⟩
  · refine slOk_of cells93 (by omega) flatEdit rfl rfl (fun i fk v hi hv h10 => ?_) (at' (k := .sl 93) rfl hu)
    subst h10
    simp only [fkEdit, List.getElem?_cons_succ, List.getElem?_cons_zero, Option.some.injEq] at hi
    subst hi
    exact nodes v hv
  · have := at' (k := .sl 185) rfl hu
    exact ⟨this.oneCell, nodes u this⟩
end
end Go.Proofs.YtebegohhjdllpaaGreatDoor
namespace Go.Proofs.YtebegohhjdllpaaGreatDoor
open Go Go.Ev Go.RowKit Go.ChangeShapes Go.WideShapes
theorem laid_there {P : Program} {w : World} : ∀ {laid : List (String × DataW Unit)} {ps : List MemPlace}, DataW.LaidVars P w laid ps → ∀ x ∈ laid, ∃ cs, w.var? P x.1 = some cs := by
  intro laid
  induction laid with
  | nil => intro ps _ x hx; cases hx
  | cons y ys ih =>
    intro ps h x hx
    obtain ⟨n, d⟩ := y
    obtain ⟨g, t, cs, f, p, q, h1, h2, h3, h4, h5, h6⟩ := h
    cases hx with
    | head => exact ⟨cs, h3⟩
    | tail _ hx => exact ih h5 x hx
theorem size_of_laid {P : Program} {w : World} {laid : List (String × DataW Unit)} (hn : (laid.all fun x => x.2.handleName?.isNone) = true) (h : laidMetH P laid w) {n : String} {g : Nat} {d : DataW Unit} (hm : (n, d) ∈ laid) (hg : P.globalNamed n = some g) :
    g < w.heap.size := by
  rw [MakeChecks.laidMetH_plain _ _ _ hn] at h
  obtain ⟨ps, h1, _⟩ := h
  obtain ⟨cs, hv⟩ := laid_there h1 _ hm
  unfold World.var? at hv
  rw [hg, Option.bind_some] at hv
  split at hv
  · rename_i hh
    exact (Array.getElem?_eq_some_iff.1 hh).1
  · cases hv
section
variable {H : Type} {enc : TypeId × Value → H}
set_option maxRecDepth 100000 in
theorem law_frame (hlo : laidOutB Tryz.prog = true) {s : ChangeSpec} (hvars : s.vars = []) (hfn : ∀ d1 d2 d3 : DataW H, s.fn H [d1, d2, d3] = { results := [.lit (.bool true)], args := [d1, d2, d3] })
    {W : World} {base : Nat} {args : Array Value} {ds gs : List (DataW H)} {before : List MemPlace} (hG : 14 ≤ W.heap.size)
    (hval : ∀ (j : Nat) t v, Tryz.f3.params[j]? = some t → args[j]? = some v → Value.okWide Tryz.prog W .any base t v)
    (hW : DataW.Whole enc Tryz.prog Tryz.f3.params.toList s.vars false W args.toList ds gs before) :
    Calls Tryz.prog 3 args W fun e W' => ∃ v, e = .returned v ∧ s.post enc Tryz.prog Tryz.f3 false true false false W args v W' := by
  have hW' := hW
  rw [hvars] at hW
  obtain ⟨p, q, hA, hV, rfl, hfz, hnd⟩ := hW
  have hlt0 := hW'.lt
  rw [Tryz.params3] at hA hval
  obtain ⟨v0, v1, v2, d0, d1, d2, p0, p1, p2, rfl, rfl, rfl, h0, h1, h2⟩ := trodAll_three hA
  obtain ⟨rfl, rfl⟩ := trodVars_none hV
  have h0k := h0
  have h1k := h1
  have h2k := h2
  obtain ⟨day, rfl, rfl, rfl, wd⟩ := open_int Tryz.underlying3 (hval 2 3 v2 rfl rfl) h2
  -- the numbers
  obtain ⟨n0, n1, rfl, w0, w1⟩ : ∃ n0 n1, v0 = .agg #[.int .i64 n0, .int .i64 n1] ∧ (Lit.int .i64 n0).wf = true ∧ (Lit.int .i64 n1).wf = true := by
    have ho := hval 0 22 v0 rfl rfl
    unfold Value.okWide at ho
    rw [Tryz.underlying22] at ho
    obtain ⟨cs, rfl, _, _⟩ := ho
    obtain ⟨fuel, hd⟩ := h0
    obtain ⟨xs, m, _, _, hl, hlen, hel⟩ := DataW.trod_array Tryz.underlying22 hd
    have c3 : Tryz.prog.cellsOf 3 = 1 := by kernel_rfl
    have c22 : Tryz.prog.cellsOf 22 = 2 := by kernel_rfl
    have e0 := hel 0 (by omega)
    have e1 := hel 1 (by omega)
    rw [c3, List.getElem?_eq_getElem (by omega)] at e0 e1
    obtain ⟨a, q1, _, q2⟩ := DataW.trod_int Tryz.underlying3 e0
    obtain ⟨b, r1, _, r2⟩ := DataW.trod_int Tryz.underlying3 e1
    have hl' : cs.toList.length = 2 := by rw [← c22]; exact hl
    refine ⟨a, b, ?_, q2, r2⟩
    obtain ⟨l⟩ := cs
    match l, hl', q1, r1 with
    | [x, y], _, q1, r1 =>
      simp [Value.cells] at q1 r1
      subst q1; subst r1
      rfl
  -- the event
  obtain ⟨cs, rfl⟩ : ∃ cs, v1 = .agg cs := by
    have ho := hval 1 34 v1 rfl rfl
    unfold Value.okWide at ho
    obtain ⟨fs, hs⟩ := struct34
    rw [hs] at ho
    obtain ⟨cs, rfl, _⟩ := ho
    exact ⟨cs, rfl⟩
  have hev := ev_open h1
  have bd := bounds_i64 wd
  have b0 := bounds_i64 w0
  have b1 := bounds_i64 w1
  have hc := law_calls hev bd.1 bd.2 b0.1 b0.2 b1.1 b1.2 hG (Nat.le_refl _) (fun k _ => rfl)
  rw [show cs.toList.toArray = cs from by simp] at hc
  refine hc.mono fun e W' ⟨he, hb⟩ => ⟨_, he, ?_⟩
  have hlt : ∀ x ∈ p0 ++ p1 ++ [] ++ [], x.block < W.heap.size := fun x hx => by simpa using hlt0 x (by simpa using hx)
  refine ⟨_, _, _, [], p0 ++ (p1 ++ []), [], hW', ?_, ?_, ?_, hb.frame _, fun h => by cases h⟩
  · rw [List.append_nil, hfn]
    have hres : Tryz.f3.resultTypes = #[4] := by kernel_rfl
    rw [hres]
    exact trodAll_mk1 (shut_bool Tryz.underlying4 _)
  · rw [List.append_nil, hfn, Tryz.params3]
    exact trodAll_mk3 (Below.trod hlo (by kernel_rfl) (of_decide_eq_true (by kernel_rfl)) h0k hb (fun x hx => hlt x (by simp [hx])))
      (Below.trod hlo (by kernel_rfl) (of_decide_eq_true (by kernel_rfl)) h1k hb (fun x hx => hlt x (by simp [hx])))
      (Below.trod hlo (by kernel_rfl) (of_decide_eq_true (by kernel_rfl)) h2k hb (fun x hx => by cases hx))
  · rw [List.append_nil, hfn, hvars]
    rfl
end
end Go.Proofs.YtebegohhjdllpaaGreatDoor
