/-
  A step of the abstract machine is sound.
-/
import Derived.Scope
import Derived.Defers
import Derived.RangeFuncRecord
import Derived.Test.YtebegohhjdllpaaGreatDoorEvF
set_option linter.unusedVariables false
set_option linter.unusedSimpArgs false
namespace Go.Ev
open Go Go.RowKit
inductive RRel (ops : Array Oper) : List Oper → List Nat → Prop
  | nil : RRel ops [] []
  | cons {o : Oper} {i : Nat} {os : List Oper} {is : List Nat} : ops[i]? = some o → RRel ops os is → RRel ops (o :: os) (i :: is)
inductive IRel (φ : Phi) : AItem → Item → Prop
  | code (c : Code) : IRel φ (.code c) (.code c)
  | inBlock (id : Nat) : IRel φ (.inBlock id) (.inBlock id)
  | inLoop (c : Code) : IRel φ (.inLoop c) (.inLoop c)
  | inScope (c : Code) : IRel φ (.inScope c) (.inScope c)
  | inReg {ops : Array Oper} {os : List Oper} {is : List Nat} : RRel ops os is → IRel φ (.inReg ops os) (.inRegion ops is)
  | inRF {l : Nat} {L : Loc} : φ l = some L → IRel φ (.inRF l) (.inRangeFunc L.b)
  | endRF {l : Nat} {L : Loc} : φ l = some L → IRel φ (.endRF l) (.endRangeFunc L.b)
  | beginRound : IRel φ .beginRound .beginRound
inductive IsRel (φ : Phi) : List AItem → List Item → Prop
  | nil : IsRel φ [] []
  | cons {i : AItem} {c : Item} {is : List AItem} {cs : List Item} : IRel φ i c → IsRel φ is cs → IsRel φ (i :: is) (c :: cs)
inductive ChRel (φ : Phi) (ν : Nat → Int) : List (AV × Bool) → List PanicEntry → Prop
  | nil : ChRel φ ν [] []
  | cons {v : AV} {r : Bool} {x : Value} {l : List (AV × Bool)} {L : List PanicEntry} : VRel φ ν v x → ChRel φ ν l L → ChRel φ ν ((v, r) :: l) ({ v := x, recovered := r } :: L)
inductive MdRel (φ : Phi) (ν : Nat → Int) : AMode → FrameMode → Prop
  | run : MdRel φ ν .run .run
  | returning : MdRel φ ν .returning .returning
  | panicking {l : List (AV × Bool)} {L : List PanicEntry} : ChRel φ ν l L → MdRel φ ν (.panicking l) (.panicking L)
inductive RoRel (φ : Phi) : Option Nat → Option Nat → Prop
  | none : RoRel φ none none
  | some {l : Nat} {L : Loc} : φ l = some L → RoRel φ (some l) (some L.b)
structure FRel (φ : Phi) (ν : Nat → Int) (fr : AFrame) (F : Frame) : Prop where
  fn : fr.fn = F.fn
  tmps : TRel φ ν fr.n fr.T F.tmps
  todo : IsRel φ fr.todo F.todo
  defers : DsRel φ ν fr.defers F.defers
  mode : MdRel φ ν fr.mode F.mode
  kind : fr.kind = F.kind
  ro : RoRel φ fr.roundOf F.roundOf
inductive FsRel (φ : Phi) (ν : Nat → Int) : List AFrame → List Frame → Prop
  | nil : FsRel φ ν [] []
  | cons {f : AFrame} {F : Frame} {fs : List AFrame} {Fs : List Frame} : FRel φ ν f F → FsRel φ ν fs Fs → FsRel φ ν (f :: fs) (F :: Fs)
section
variable {φ φ' : Phi} {ν : Nat → Int}
theorem IRel.mono (hx : Ext φ φ') {i : AItem} {c : Item} (h : IRel φ i c) : IRel φ' i c := by
  cases h with
  | code c => exact .code c
  | inBlock id => exact .inBlock id
  | inLoop c => exact .inLoop c
  | inScope c => exact .inScope c
  | inReg h => exact .inReg h
  | inRF h => exact .inRF (hx _ _ h)
  | endRF h => exact .endRF (hx _ _ h)
  | beginRound => exact .beginRound
theorem IsRel.mono (hx : Ext φ φ') {i : List AItem} {c : List Item} (h : IsRel φ i c) : IsRel φ' i c := by
  induction h with
  | nil => exact .nil
  | cons h _ ih => exact .cons (h.mono hx) ih
theorem ChRel.mono (hx : Ext φ φ') {l : List (AV × Bool)} {L : List PanicEntry} (h : ChRel φ ν l L) : ChRel φ' ν l L := by
  induction h with
  | nil => exact .nil
  | cons h _ ih => exact .cons (h.mono hx) ih
theorem ChRel.append {l l' : List (AV × Bool)} {L L' : List PanicEntry} (h : ChRel φ ν l L) (h' : ChRel φ ν l' L') : ChRel φ ν (l ++ l') (L ++ L') := by
  induction h with
  | nil => exact h'
  | cons h _ ih => exact .cons h ih
theorem MdRel.mono (hx : Ext φ φ') {l : AMode} {L : FrameMode} (h : MdRel φ ν l L) : MdRel φ' ν l L := by
  cases h with
  | run => exact .run
  | returning => exact .returning
  | panicking h => exact .panicking (h.mono hx)
theorem RoRel.mono (hx : Ext φ φ') {l L : Option Nat} (h : RoRel φ l L) : RoRel φ' l L := by
  cases h with
  | none => exact .none
  | some h => exact .some (hx _ _ h)
theorem FRel.mono (hx : Ext φ φ') {f : AFrame} {F : Frame} (h : FRel φ ν f F) : FRel φ' ν f F :=
  ⟨h.fn, h.tmps.mono hx, h.todo.mono hx, h.defers.mono hx, h.mode.mono hx, h.kind, h.ro.mono hx⟩
theorem FsRel.mono (hx : Ext φ φ') {f : List AFrame} {F : List Frame} (h : FsRel φ ν f F) : FsRel φ' ν f F := by
  induction h with
  | nil => exact .nil
  | cons h _ ih => exact .cons (h.mono hx) ih
theorem exitTo_some {id : Nat} {k : List AItem} {K : List Item} (h : IsRel φ k K) : ∀ {k'}, exitToA id k = some k' → ∃ K', exitTo id K = some K' ∧ IsRel φ k' K' := by
  induction h with
  | nil => intro k' h; cases h
  | @cons i c is cs h1 h2 ih =>
    intro k' h
    cases h1 <;> first
      | exact ih h
      | skip
    rename_i id'
    unfold exitToA at h
    split at h
    · rename_i hb
      have := nat_beq hb
      simp only [Option.some.injEq] at h
      subst h
      exact ⟨cs, by simp [exitTo, this], h2⟩
    · rename_i hb
      have := nat_beq_false hb
      obtain ⟨K', q1, q2⟩ := ih h
      exact ⟨K', by simp [exitTo, this, q1], q2⟩
theorem exitTo_none {id : Nat} {k : List AItem} {K : List Item} (h : IsRel φ k K) : exitToA id k = none → exitTo id K = none := by
  induction h with
  | nil => intro _; rfl
  | @cons i c is cs h1 h2 ih =>
    intro h
    cases h1 <;> first
      | exact ih h
      | skip
    rename_i id'
    unfold exitToA at h
    split at h
    · cases h
    · rename_i hb
      have := nat_beq_false hb
      simp [exitTo, this, ih h]
theorem goto_some {l : Nat} {k : List AItem} {K : List Item} (h : IsRel φ k K) : ∀ {k'}, gotoA l k = some k' → ∃ K', gotoIn l K = some K' ∧ IsRel φ k' K' := by
  induction h with
  | nil => intro k' h; cases h
  | @cons i c is cs h1 h2 ih =>
    intro k' h
    cases h1 <;> first
      | exact ih h
      | skip
    rename_i body
    unfold gotoA at h
    unfold gotoIn
    split at h
    · rename_i rest hf
      simp only [Option.some.injEq] at h
      subst h
      exact ⟨.code rest :: .inScope body :: cs, by rw [hf], .cons (.code _) (.cons (.inScope _) h2)⟩
    · rename_i hf
      rw [hf]
      exact ih h
theorem goto_none {l : Nat} {k : List AItem} {K : List Item} (h : IsRel φ k K) : gotoA l k = none → gotoIn l K = none := by
  induction h with
  | nil => intro _; rfl
  | @cons i c is cs h1 h2 ih =>
    intro h
    cases h1 <;> first
      | exact ih h
      | skip
    rename_i body
    unfold gotoA at h
    unfold gotoIn
    split at h
    · cases h
    · rename_i hf
      rw [hf]
      exact ih h
end
/-! what a tree says -/
inductive LeafOf : Tree → Leaf → Prop
  | leaf (l : Leaf) : LeafOf (.leaf l) l
  | node {ts : List Tree} {t : Tree} {l : Leaf} : t ∈ ts → LeafOf t l → LeafOf (.node ts) l
/-- No way of the tree was given up. -/
inductive Full : Tree → Prop
  | leaf (l : Leaf) : Full (.leaf l)
  | node {ts : List Tree} : (∀ t ∈ ts, Full t) → Full (.node ts)
/-- Where a run is to come to: its lowest frame leaves, above these frames; or it has given back to the frame that waits for it. -/
inductive Base where
  | leave (f0 : Nat) (base : List Frame)
  | back (c : Frame) (cs : List Frame)
def Base.frames : Base → List Frame
  | .leave _ l => l
  | .back c cs => c :: cs
def Ends (E : Env) (φ : Phi) (ν : Nat → Int) (B : Nat) (b : Base) (M : Machine) (w : World) : Leaf → Prop
  | .ret v m' => ∃ w' φ' x, Ext φ φ' ∧ MRel E φ' ν B m' w' ∧ Below B w w' ∧ VRel φ' ν v x ∧ match b with
    | .leave f0 base => ∃ fr, Steps E.P M (lone fr base w') ∧ fr.fn = f0 ∧ fr.leaving E.P w' (.returned x)
    | .back c cs => Steps E.P M (lone (c.finish x) cs w')
  | .pan l m' => ∃ w' φ' C, Ext φ φ' ∧ MRel E φ' ν B m' w' ∧ Below B w w' ∧ ChRel φ' ν l C ∧ match b with
    | .leave f0 base => ∃ fr, Steps E.P M (lone fr base w') ∧ fr.fn = f0 ∧ fr.leaving E.P w' (.panicked C)
    | .back c cs => Steps E.P M (lone (c.raise C) cs w')
def Good (E : Env) (φ : Phi) (ν : Nat → Int) (B : Nat) (b : Base) (M : Machine) (w : World) (t : Tree) : Prop :=
  Full t → ∃ l, LeafOf t l ∧ Ends E φ ν B b M w l
/-- What the lowest frame is. -/
def Bot (b : Base) : Frame → List Frame → Prop
  | F, [] => match b with
    | .leave f0 _ => F.fn = f0 ∧ F.roundOf = none
    | .back _ _ => True
  | _, F :: Fs => Bot b F Fs
/-- What a run is to be. -/
def RunOk (E : Env) (ν : Nat → Int) (ih : Run) : Prop :=
  ∀ (φ : Phi) (B : Nat) (b : Base) (fr : AFrame) (cs : List AFrame) (m : AMem) (w : World) (F : Frame) (C : List Frame), FRel φ ν fr F → FsRel φ ν cs C → MRel E φ ν B m w → Bot b F C →
    Good E φ ν B b (lone F (C ++ b.frames) w) w (ih fr cs m)
section
variable {E : Env} {φ φ' : Phi} {ν : Nat → Int} {B : Nat} {b : Base} {w w' : World} {M M' : Machine} {t : Tree}
theorem good_fail : Good E φ ν B b M w .fail := by intro h; cases h
theorem Ends.back (hs : Steps E.P M M') (hx : Ext φ φ') (hb : Below B w w') {l : Leaf} (h : Ends E φ' ν B b M' w' l) : Ends E φ ν B b M w l := by
  cases l with
  | ret v m' =>
    obtain ⟨w2, φ2, x, h1, h2, h3, h4, h5⟩ := h
    refine ⟨w2, φ2, x, hx.trans h1, h2, hb.trans h3, h4, ?_⟩
    cases b with
    | leave f0 base => obtain ⟨fr, q1, q2⟩ := h5; exact ⟨fr, hs.trans q1, q2⟩
    | back c cs => exact hs.trans h5
  | pan c m' =>
    obtain ⟨w2, φ2, x, h1, h2, h3, h4, h5⟩ := h
    refine ⟨w2, φ2, x, hx.trans h1, h2, hb.trans h3, h4, ?_⟩
    cases b with
    | leave f0 base => obtain ⟨fr, q1, q2⟩ := h5; exact ⟨fr, hs.trans q1, q2⟩
    | back c cs => exact hs.trans h5
/-- Some steps of the machine ahead. -/
theorem Good.back (hs : Steps E.P M M') (hx : Ext φ φ') (hb : Below B w w') (h : Good E φ' ν B b M' w' t) : Good E φ ν B b M w t := by
  intro hf
  obtain ⟨l, h1, h2⟩ := h hf
  exact ⟨l, h1, h2.back hs hx hb⟩
theorem Good.step (hs : Go.step E.P M = .next M') (h : Good E φ ν B b M' w t) : Good E φ ν B b M w t := h.back (Steps.one hs) (Ext.refl φ) (Below.refl _ _)
theorem Good.pick {ts : List Tree} (ht : t ∈ ts) (h : Good E φ ν B b M w t) : Good E φ ν B b M w (.node ts) := by
  intro hf
  cases hf with
  | node hf =>
    obtain ⟨l, h1, h2⟩ := h (hf t ht)
    exact ⟨l, .node ht h1, h2⟩
end
end Go.Ev
namespace Go.Ev
open Go Go.RowKit
section
variable {E : Env} {φ φ' : Phi} {ν : Nat → Int} {B : Nat} {b : Base} {w w' : World} {M M' : Machine} {t : Tree} {m m' : AMem}
theorem putF_sound {d : Option Nat} {v : AV} {x : Value} {fn n : Nat} {T : Tr AV} {todo : List AItem} {ds : List ADef} {md : AMode} {kd : CallKind} {ro : Option Nat} {k : AFrame → Tree}
    {tmps : Array Value} (hT : TRel φ ν n T tmps) (hv : VRel φ ν v x)
    (hk : ∀ T', TRel φ ν n T' (match d with | some d => tmps.setIfInBounds d x | none => tmps) → Good E φ ν B b M w (k ⟨fn, n, T', todo, ds, md, kd, ro⟩)) :
    Good E φ ν B b M w (putF d v fn n T todo ds md kd ro k) := by
  unfold putF
  split
  · split
    · rename_i hd
      exact hk _ (hT.put hv (nat_blt hd))
    · exact good_fail
  · exact hk _ hT
theorem finishF_sound {fr : AFrame} {F : Frame} (h : FRel φ ν fr F) {v : AV} {x : Value} (hv : VRel φ ν v x) {k : AFrame → Tree}
    (hk : ∀ fr', FRel φ ν fr' (F.finish x) → Good E φ ν B b M w (k fr')) : Good E φ ν B b M w (finishA fr v k) := by
  obtain ⟨fn, n, T, todo, ds, md, kd, ro⟩ := fr
  obtain ⟨fn', tmps, todo', ds', md', kd', ro'⟩ := F
  obtain ⟨h1, h2, h3, h4, h5, h6, h7⟩ := h
  simp only at h1 h2 h3 h4 h5 h6 h7
  unfold finishA finishF
  simp only
  split
  · rename_i ops o rest t
    cases h3 with
    | @cons _ c _ cs hc hcs =>
      cases hc with
      | inReg hr =>
        cases hr with
        | @cons _ i _ is hi his =>
          refine putF_sound h2 hv (fun T' hT' => hk _ ⟨h1, ?_, ?_, ?_, ?_, ?_, ?_⟩) <;> simp only [Frame.finish]
          · simp only [hi, Option.bind_some]; exact hT'
          · exact .cons (.inReg his) hcs
          · exact h4
          · exact h5
          · exact h6
          · exact h7
  · cases h3 with
    | cons hc hcs =>
      cases hc with
      | inRF hl => exact hk _ ⟨h1, h2, .cons (.endRF hl) hcs, h4, h5, h6, h7⟩
  · cases h3 with
    | cons hc hcs =>
      cases hc with
      | beginRound => exact hk _ ⟨h1, h2, hcs, h4, h5, h6, h7⟩
  · exact good_fail
theorem argsT_rel : ∀ (args : List AV) (cargs : List Value), LRel φ ν args cargs → ∀ (i n : Nat) (T : Tr AV) (tmps : Array Value), TRel φ ν n T tmps → i + args.length ≤ n →
    ∀ (tmps' : Array Value), tmps'.size = n → (∀ t, tmps'.getD t undef = if i ≤ t ∧ t < i + args.length then cargs.getD (t - i) undef else tmps.getD t undef) → TRel φ ν n (argsT T i args) tmps' := by
  intro args
  induction args with
  | nil =>
    intro cargs _ i n T tmps hT _ tmps' hs h
    refine ⟨hs, fun t => ?_⟩
    have := h t
    rw [if_neg (by simp)] at this
    rw [this]; exact hT.2 t
  | cons a args ih =>
    intro cargs hl i n T tmps hT hn tmps' hs h
    obtain ⟨c, cs, rfl, hc, ht⟩ := hl.cons_inv
    simp only [List.length_cons] at hn h
    refine ih cs ht (Nat.add i 1) n _ _ (hT.put hc (d := i) (by omega)) (by simp only [Nat.add_eq]; omega) tmps' hs (fun t => ?_)
    rw [h t]
    simp only [Nat.add_eq]
    by_cases e : t = i
    · subst e
      rw [if_pos (by omega), if_neg (by omega)]
      have : t < tmps.size := by rw [hT.1]; omega
      simp [Array.getD, this]
    · by_cases q : i + 1 ≤ t ∧ t < i + 1 + args.length
      · rw [if_pos (by omega), if_pos q, show t - i = (t - (i + 1)) + 1 from by omega]
        simp
      · rw [if_neg (by omega), if_neg q]
        simp only [Array.getD_eq_getD_getElem?]
        rw [Array.getElem?_setIfInBounds_ne (fun z => e z.symm)]
theorem enterA_sound {f : Nat} {args : List AV} {cargs : List Value} (ha : LRel φ ν args cargs) {kd : CallKind} {fr : AFrame} (h : enterA E f args kd = some fr) :
    FRel φ ν fr (Frame.enter E.P f cargs.toArray kd) := by
  unfold enterA at h
  split at h
  · rename_i fn hf
    split at h
    · rename_i c hb
      simp only [Option.some.injEq] at h; subst h
      have hlen := ha.1
      refine ⟨rfl, ?_, ?_, .nil, .run, rfl, .none⟩
      · rw [lenL_eq]
        simp only
        obtain ⟨N, hN, hN1, hN2, hN3⟩ : ∃ N, Nat.max fn.ntmps args.length = N ∧ fn.ntmps ≤ N ∧ args.length ≤ N ∧ (N = fn.ntmps ∨ N = args.length) :=
          ⟨max fn.ntmps args.length, rfl, by omega, by omega, by omega⟩
        rw [hN]
        refine argsT_rel args cargs ha 0 N .nil (Array.replicate N undef) ⟨by simp, fun t => ?_⟩ (by omega) _ ?_ (fun t => ?_)
        · have : tget (.nil : Tr AV) t = undefA := by
            unfold tget
            rw [Tr.get_nil]
          rw [this]
          have : (Array.replicate N undef).getD t undef = undef := by
            simp only [Array.getD_eq_getD_getElem?, Array.getElem?_replicate]
            split <;> rfl
          rw [this]; exact undef_rel
        · simp only [Frame.enter, hf, Option.map_some, Option.getD_some, Array.size_append, List.size_toArray, Array.size_replicate]
          omega
        · simp only [Frame.enter, hf, Option.map_some, Option.getD_some, Nat.zero_le, true_and, Nat.zero_add, Nat.sub_zero]
          simp only [Array.getD_eq_getD_getElem?, Array.getElem?_append, List.size_toArray, Array.getElem?_replicate, List.getElem?_toArray, List.getD_eq_getElem?_getD]
          rw [hlen]
          split
          · rfl
          · split <;> split <;> rfl
      · simp only [Frame.enter, hf, Option.bind_some, hb, Option.getD_some]
        exact .cons (.code _) .nil
    · cases h
  · cases h
end
end Go.Ev
namespace Go.Ev
open Go Go.RowKit
section
variable {E : Env} {φ φ' : Phi} {ν : Nat → Int} {B : Nat} {b : Base} {w w' : World} {M M' : Machine} {t : Tree} {m m' : AMem} {P : Program}
theorem Bot.congr {F F' : Frame} {C : List Frame} (h : Bot b F C) (h1 : F'.fn = F.fn) (h2 : F'.roundOf = F.roundOf) : Bot b F' C := by
  cases C with
  | nil =>
    cases b with
    | leave f0 base => exact ⟨h1.trans h.1, h2.trans h.2⟩
    | back c cs => trivial
  | cons c C => exact h
theorem Bot.tail {F c : Frame} {C : List Frame} (h : Bot b F (c :: C)) : Bot b c C := h
/-- The body of a frame is left, with this jump. -/
inductive LeavesWith : List Item → Option Code → Prop
  | nil : LeavesWith [] none
  | ret (k : List Item) : LeavesWith (.code .ret :: k) (some .ret)
  | exit (id : Nat) (k : List Item) : exitTo id k = none → LeavesWith (.code (.exit id) :: k) (some (.exit id))
  | goto (l : Nat) (k : List Item) : gotoIn l k = none → LeavesWith (.code (.goto l) :: k) (some (.goto l))
theorem step_leave_none {fn : Nat} {tmps : Array Value} {todo : List Item} {ds : List Deferred} {kd : CallKind} {cs : List Frame} {j : Option Code} (h : LeavesWith todo j) (hj : j = none ∨ j = some .ret) :
    Go.step P (lone ⟨fn, tmps, todo, ds, .run, kd, none⟩ cs w) = .next (lone ⟨fn, tmps, todo, ds, .returning, kd, none⟩ cs w) := by
  cases h with
  | nil => exact step_lone_go (by simp [stepG, stepG.exec])
  | ret k => exact step_lone_go (by simp [stepG, stepG.exec])
  | exit id k h => rcases hj with q | q <;> cases q
  | goto l k h => rcases hj with q | q <;> cases q
theorem step_leave_round {fn : Nat} {tmps : Array Value} {todo : List Item} {ds : List Deferred} {kd : CallKind} {c : Frame} {cs : List Frame} {j : Option Code} (h : LeavesWith todo j) {l : Nat} {v : Value}
    (hr : (Instr.endRound l j).run P w = .ok v w') (hk : kd = .normal) :
    Go.step P (lone ⟨fn, tmps, todo, ds, .run, kd, some l⟩ (c :: cs) w) = .next (lone (c.finish v) cs w') := by
  subst hk
  cases h with
  | nil => exact step_lone_go (by simp [stepG, stepG.exec, Sem.runT_eq, hr, GStep.bare_after, doReturn])
  | ret k => exact step_lone_go (by simp [stepG, stepG.exec, Sem.runT_eq, hr, GStep.bare_after, doReturn])
  | exit id k h => exact step_lone_go (by simp [stepG, stepG.exec, Sem.runT_eq, hr, GStep.bare_after, doReturn, h])
  | goto l k h => exact step_lone_go (by simp [stepG, stepG.exec, Sem.runT_eq, hr, GStep.bare_after, doReturn, h])
/-- A frame that waits gets its value: the rest of the run. -/
theorem caller_sound {ih : Run} (hih : RunOk E ν ih) {c : AFrame} {cs : List AFrame} {F : Frame} {C : List Frame} (hc : FRel φ ν c F) (hcs : FsRel φ ν cs C) (hm : MRel E φ ν B m w) (hb : Bot b F C) {v : AV} {x : Value} (hv : VRel φ ν v x) :
    Good E φ ν B b (lone (F.finish x) (C ++ b.frames) w) w (finishA c v fun c => ih c cs m) := by
  refine finishF_sound hc hv (fun fr' h' => hih φ B b fr' cs m w _ C h' hcs hm (hb.congr ?_ ?_))
  · unfold Frame.finish; split <;> rfl
  · unfold Frame.finish; split <;> rfl
theorem ChRel.drop {l : List (AV × Bool)} {L : List PanicEntry} (h : ChRel φ ν l L) : L.dropWhile (fun e => !e.goexit) = [] := by
  induction h with
  | nil => rfl
  | cons _ _ ih => simp [List.dropWhile, ih]
theorem settle_rel {c : AFrame} {F : Frame} (h : FRel φ ν c F) : FRel φ ν (match modeOf c with | .panicking ((_, true) :: _) => setMode c .returning | _ => c) { F with mode := settle F.mode } := by
  obtain ⟨fn, n, T, todo, ds, md, kd, ro⟩ := c
  obtain ⟨fn', tmps, todo', ds', md', kd', ro'⟩ := F
  obtain ⟨h1, h2, h3, h4, h5, h6, h7⟩ := h
  simp only at h1 h2 h3 h4 h5 h6 h7
  cases h5 with
  | run => exact ⟨h1, h2, h3, h4, .run, h6, h7⟩
  | returning => exact ⟨h1, h2, h3, h4, .returning, h6, h7⟩
  | panicking hch =>
    cases hch with
    | nil => exact ⟨h1, h2, h3, h4, .panicking .nil, h6, h7⟩
    | @cons v r x l L hv hl =>
      cases r with
      | false => exact ⟨h1, h2, h3, h4, .panicking (.cons hv hl), h6, h7⟩
      | true =>
        have : settle (.panicking ({ v := x, recovered := true } :: L)) = .returning := by simp [settle, hl.drop]
        refine ⟨h1, h2, h3, h4, ?_, h6, h7⟩
        simp only [this, modeOf, setMode]
        exact .returning
end
end Go.Ev
namespace Go.Ev
open Go Go.RowKit
section
variable {E : Env} {φ φ' : Phi} {ν : Nat → Int} {B : Nat} {b : Base} {w w' : World} {M M' : Machine} {t : Tree} {m m' : AMem} {P : Program}
theorem resultsL_sound (h : MRel E φ ν B m w) {n : Nat} {T : Tr AV} {tmps : Array Value} (hT : TRel φ ν n T tmps) (g : ResultVar → Sem Value)
    (hg1 : ∀ t, g (.tmp t) = pure (tmps.getD t undef)) (hg2 : ∀ a t, g (.cell a t) = (do loadVar t (← asAddr (tmps.getD a undef)))) : ∀ (l : List ResultVar) (as : List AV), resultsA E m T l = some as →
    ∃ vs, (l.mapM g).run E.P w = .ok vs w ∧ LRel φ ν as vs := by
  intro l
  induction l with
  | nil => intro as ha; simp only [resultsA, Option.some.injEq] at ha; subst ha; exact ⟨[], by simp, .nil⟩
  | cons r l ih =>
    intro as ha
    cases r with
    | tmp t =>
      unfold resultsA at ha
      split at ha
      · rename_i as' h'
        simp only [Option.some.injEq] at ha; subst ha
        obtain ⟨vs, q1, q2⟩ := ih as' h'
        exact ⟨tmps.getD t undef :: vs, by simp [List.mapM_cons, hg1, q1], .cons (hT.2 t) q2⟩
      · cases ha
    | cell a t =>
      unfold resultsA at ha
      split at ha
      · rename_i v as' hv h'
        simp only [Option.some.injEq] at ha; subst ha
        obtain ⟨vs, q1, q2⟩ := ih as' h'
        obtain ⟨ad, e1, x, e2, e3⟩ := opLoad_sound h hv (hT.2 a)
        exact ⟨x :: vs, by simp only [List.mapM_cons, hg2, e1, asAddr, Sem.run_bind, Sem.run_pure, Result.andThen_ok, e2, q1], .cons e3 q2⟩
      · cases ha
theorem oneOrTup_sound {as : List AV} {vs : List Value} (h : LRel φ ν as vs) : VRel φ ν (oneOrTup as) (if h : vs.toArray.size = 1 then vs.toArray[0] else .tuple vs.toArray) := by
  unfold oneOrTup
  split
  · obtain ⟨c, cs, rfl, h1, h2⟩ := h.cons_inv
    rw [h2.nil_inv]
    simpa using h1
  · rename_i hne
    have : ¬ vs.toArray.size = 1 := by
      intro e
      have l1 : as.length = 1 := by rw [h.1]; simpa using e
      match as, l1 with
      | [v], _ => exact hne v rfl
    rw [dif_neg this]
    exact VRel.tup' h
theorem results_sound (h : MRel E φ ν B m w) {n : Nat} {T : Tr AV} {tmps : Array Value} (hT : TRel φ ν n T tmps) {f : Func} {as : List AV} (ha : resultsA E m T f.results.toList = some as) :
    ∃ x, (results f tmps).run E.P w = .ok x w ∧ VRel φ ν (oneOrTup as) x := by
  have key : ∀ g : ResultVar → Sem Value, (∀ t, g (.tmp t) = pure (tmps.getD t undef)) → (∀ a t, g (.cell a t) = (do loadVar t (← asAddr (tmps.getD a undef)))) →
      ∃ x, (do let vs ← f.results.mapM g; pure (if h : vs.size = 1 then vs[0] else .tuple vs) : Sem Value).run E.P w = .ok x w ∧ VRel φ ν (oneOrTup as) x := by
    intro g hg1 hg2
    obtain ⟨vs, q1, q2⟩ := resultsL_sound h hT g hg1 hg2 f.results.toList as ha
    refine ⟨_, ?_, oneOrTup_sound q2⟩
    rw [Array.mapM_eq_mapM_toList]
    simp only [map_eq_pure_bind, Sem.run_bind, Sem.run_pure, q1, Result.andThen_ok]
  exact key _ (fun _ => rfl) (fun _ _ => rfl)
end
end Go.Ev
namespace Go.Ev
open Go Go.RowKit
section
variable {E : Env} {φ φ' : Phi} {ν : Nat → Int} {B : Nat} {b : Base} {w w' : World} {M M' : Machine} {t : Tree} {m m' : AMem} {P : Program}
theorem raise_rel {c : AFrame} {F : Frame} (h : FRel φ ν c F) {l : List (AV × Bool)} {L : List PanicEntry} (hl : ChRel φ ν l L) : FRel φ ν (raiseA c l) (F.raise L) := by
  obtain ⟨fn, n, T, todo, ds, md, kd, ro⟩ := c
  obtain ⟨fn', tmps, todo', ds', md', kd', ro'⟩ := F
  obtain ⟨h1, h2, h3, h4, h5, h6, h7⟩ := h
  simp only at h1 h2 h3 h4 h5 h6 h7
  cases h5 with
  | run => exact ⟨h1, h2, h3, h4, .panicking hl, h6, h7⟩
  | returning => exact ⟨h1, h2, h3, h4, .panicking hl, h6, h7⟩
  | panicking hch => exact ⟨h1, h2, h3, h4, .panicking (hl.append hch), h6, h7⟩
theorem raise_fn (F : Frame) (L : List PanicEntry) : (F.raise L).fn = F.fn ∧ (F.raise L).roundOf = F.roundOf := by
  unfold Frame.raise; split <;> exact ⟨rfl, rfl⟩
/-- A function's frame gives its value back. -/
theorem doReturn_fun {ih : Run} (hih : RunOk E ν ih) {F : Frame} {kd : CallKind} (hk : F.kind = kd) (hmode : F.mode = .returning) (hds : F.defers = []) {f : Func} (hf : E.P.funcs[F.fn]? = some f)
    {x : Value} {v : AV} (hr : (results f F.tmps).run E.P w = .ok x w) (hv : VRel φ ν v x) {cs : List AFrame} {C : List Frame} (hcs : FsRel φ ν cs C) (hm : MRel E φ ν B m w) (hb : Bot b F C) :
    Good E φ ν B b (lone F (C ++ b.frames) w) w (doReturnA ih kd cs v m) := by
  unfold doReturnA
  cases hcs with
  | nil =>
    simp only
    split
    · intro _
      refine ⟨_, .leaf _, w, φ, x, Ext.refl φ, hm, Below.refl _ _, hv, ?_⟩
      cases b with
      | leave f0 base => exact ⟨F, Steps.refl _ _, hb.1, hmode, hds, hk, f, hf, hr⟩
      | back c cs => exact Steps.one (step_leave_returned ⟨hmode, hds, hk, f, hf, hr⟩)
    · exact good_fail
  | @cons c Fc cs C hc hcs =>
    simp only
    split
    · exact Good.step (step_leave_returned ⟨hmode, hds, hk, f, hf, hr⟩) (caller_sound hih hc hcs hm hb.tail hv)
    · refine Good.step (step_going_returned hk ⟨hmode, hds, f, hf, hr⟩) ?_
      have hs := settle_rel hc
      have hb' : Bot b { Fc with mode := settle Fc.mode } C := hb.tail.congr rfl rfl
      split
      · rename_i hmd
        rw [hmd] at hs
        exact hih φ B b _ cs m w _ C hs hcs hm hb'
      · rename_i hmd
        split at hs
        · rename_i h'; exact absurd h' (hmd _ _)
        · exact hih φ B b _ cs m w _ C hs hcs hm hb'
    · exact good_fail
theorem returnF_sound {ih : Run} (hih : RunOk E ν ih) {fn n : Nat} {T : Tr AV} {todo : List AItem} {kd : CallKind} {ro : Option Nat} {F : Frame} (h : FRel φ ν ⟨fn, n, T, todo, [], .returning, kd, ro⟩ F)
    {cs : List AFrame} {C : List Frame} (hcs : FsRel φ ν cs C) (hm : MRel E φ ν B m w) (hb : Bot b F C) :
    Good E φ ν B b (lone F (C ++ b.frames) w) w (returnF E ih fn T kd cs m) := by
  have h1 := h.fn; have h2 := h.tmps; have h4 := h.defers; have h5 := h.mode; have h6 := h.kind
  simp only at h1 h2 h4 h5 h6
  unfold returnF
  split
  · rename_i f hf
    split
    · rename_i l hl
      obtain ⟨x, hr, hv⟩ := results_sound hm h2 hl
      have hmode : F.mode = .returning := by revert h5; generalize F.mode = q; intro h5; cases h5; rfl
      have hds : F.defers = [] := by revert h4; generalize F.defers = q; intro h4; cases h4; rfl
      exact doReturn_fun hih h6.symm hmode hds (by rw [← h1]; exact hf) hr hv hcs hm hb
    · exact good_fail
  · exact good_fail
theorem panicF_sound {ih : Run} (hih : RunOk E ν ih) {fn n : Nat} {T : Tr AV} {todo : List AItem} {kd : CallKind} {ro : Option Nat} {F : Frame} {chain : List (AV × Bool)} (h : FRel φ ν ⟨fn, n, T, todo, [], .panicking chain, kd, ro⟩ F)
    {cs : List AFrame} {C : List Frame} (hcs : FsRel φ ν cs C) (hm : MRel E φ ν B m w) (hb : Bot b F C) :
    Good E φ ν B b (lone F (C ++ b.frames) w) w (panicF E ih fn chain kd ro cs m) := by
  have h1 := h.fn; have h4 := h.defers; have h5 := h.mode
  simp only at h1 h4 h5
  unfold panicF
  split
  · rename_i f hf
    have hds : F.defers = [] := by revert h4; generalize F.defers = q; intro h4; cases h4; rfl
    obtain ⟨L, hmode, hL⟩ : ∃ L, F.mode = .panicking L ∧ ChRel φ ν chain L := by
      revert h5; generalize F.mode = q; intro h5
      cases h5 with
      | panicking hl => exact ⟨_, rfl, hl⟩
    have hlv : F.leaving E.P w (.panicked L) := ⟨hmode, hds, f, by rw [← h1]; exact hf⟩
    cases hcs with
    | nil =>
      simp only
      split
      · intro _
        refine ⟨_, .leaf _, w, φ, L, Ext.refl φ, hm, Below.refl _ _, hL, ?_⟩
        cases b with
        | leave f0 base => exact ⟨F, Steps.refl _ _, hb.1, hlv⟩
        | back c cs => exact Steps.one (step_leave_panicked hlv)
      · exact good_fail
    | @cons c Fc cs C hc hcs =>
      simp only
      exact Good.step (step_leave_panicked hlv) (hih φ B b _ cs m w _ C (raise_rel hc hL) hcs hm (hb.tail.congr (raise_fn _ _).1 (raise_fn _ _).2))
  · exact good_fail
theorem DsRel.append {a a' : List ADef} {c c' : List Deferred} (h : DsRel φ ν a c) (h' : DsRel φ ν a' c') : DsRel φ ν (a ++ a') (c ++ c') := by
  induction h with
  | nil => exact h'
  | cons h _ ih => exact .cons h ih
theorem deferF_sound {ih : Run} (hih : RunOk E ν ih) (hS : SpecOk E ν) {fn n : Nat} {T : Tr AV} {todo : List AItem} {d : ADef} {ds : List ADef} {md : AMode} {kd : CallKind} {ro : Option Nat} {F : Frame}
    (h : FRel φ ν ⟨fn, n, T, todo, d :: ds, md, kd, ro⟩ F) (hrun : F.mode ≠ .run) {cs : List AFrame} {C : List Frame} (hcs : FsRel φ ν cs C) (hm : MRel E φ ν B m w) (hb : Bot b F C) :
    Good E φ ν B b (lone F (C ++ b.frames) w) w (deferF E ih fn n T todo d ds md kd ro cs m) := by
  obtain ⟨fn', tmps, todo', ds', md', kd', ro'⟩ := F
  obtain ⟨h1, h2, h3, h4, h5, h6, h7⟩ := h
  simp only at h1 h2 h3 h4 h5 h6 h7 hrun
  cases h4 with
  | @cons _ D _ Ds hd hds =>
    obtain ⟨tgt, args⟩ := d
    obtain ⟨ht, ha⟩ := hd
    simp only at ht ha
    unfold deferF
    simp only
    split
    · rename_i r
      cases hq : D.target <;> rw [hq] at ht <;> cases ht
      rename_i L hL
      split
      · rename_i calls hg
        obtain ⟨o, q1, q2⟩ := hm.blk r _ L hg hL
        cases q2 with
        | deferredS hcalls =>
          refine Good.back (Steps.one (step_collected (w' := w.putObj L.b (.deferred none)) hrun rfl hq (run_takeDeferred q1))) (Ext.refl φ) (Below.setB hm hg hL rfl (.deferred none)) ?_
          exact hih φ B b _ cs _ _ _ C ⟨h1, h2, h3, hcalls.append hds, h5, h6, h7⟩ hcs (hm.setB hg hL rfl .deferredN) (hb.congr rfl rfl)
      · exact good_fail
    · rename_i f cap
      split
      · exact good_fail
      · rename_i hsp
        have hq : ∃ cs', D.target = .fn (.func f) cs' ∧ LRel φ ν cap cs'.toList := by
          cases hq : D.target <;> rw [hq] at ht <;> cases ht
          rename_i cs' hc
          exact ⟨_, rfl, by simpa using hc⟩
        obtain ⟨cs', hq1, hq2⟩ := hq
        have hl : LRel φ ν (appL args cap) (D.args.toList ++ cs'.toList) := by rw [appL_eq]; exact ha.append hq2
        have hc := opCallFunc_sound hS hm (f := f) hl
        split
        · rename_i g as mm hcall
          rw [hcall] at hc
          obtain ⟨cargs, hr, hla, rfl⟩ := hc
          have hinv : (invoke D.target D.args).run E.P w = .ok (.enter g cargs.toArray) w := by
            rw [hq1]
            simp only [invoke]
            rw [← hr]
            congr 2
            apply Array.ext'
            simp
          unfold pushT
          split
          · rename_i fr hen
            refine Good.step (step_defer (ds := Ds) hrun rfl hq1 hinv) ?_
            exact hih φ B b _ _ _ _ _ (_ :: C) (enterA_sound hla hen) (.cons ⟨h1, h2, h3, hds, h5, h6, h7⟩ hcs) hm (hb.congr rfl rfl)
          · exact good_fail
        · exact good_fail
    · exact good_fail
end
end Go.Ev
namespace Go.Ev
open Go Go.RowKit
section
variable {E : Env} {φ φ' : Phi} {ν : Nat → Int} {B : Nat} {b : Base} {w w' : World} {M M' : Machine} {t : Tree} {m m' : AMem} {P : Program}
theorem step_leave_roundD {fn : Nat} {tmps : Array Value} {todo : List Item} {ds : List Deferred} {kd : CallKind} {c : Frame} {cs : List Frame} {j : Option Code} (h : LeavesWith todo j) {l : Nat} {v : Value}
    (hr : (Instr.endRound l j).run P w = .ok v w') (hk : kd = .deferred) :
    Go.step P (lone ⟨fn, tmps, todo, ds, .run, kd, some l⟩ (c :: cs) w) = .next (lone { c with mode := settle c.mode } cs w') := by
  subst hk
  cases h with
  | nil =>
    refine step_lone_go ?_
    simp only [stepG, stepG.exec, Sem.runT_eq, hr, GStep.bare_after, doReturn, GStep.bare_go]
    unfold settle; split <;> (try split) <;> simp_all
  | ret k =>
    refine step_lone_go ?_
    simp only [stepG, stepG.exec, Sem.runT_eq, hr, GStep.bare_after, doReturn, GStep.bare_go]
    unfold settle; split <;> (try split) <;> simp_all
  | exit id k h =>
    refine step_lone_go ?_
    simp only [stepG, stepG.exec, h, Option.elim_none, Sem.runT_eq, hr, GStep.bare_after, doReturn, GStep.bare_go]
    unfold settle; split <;> (try split) <;> simp_all
  | goto l k h =>
    refine step_lone_go ?_
    simp only [stepG, stepG.exec, h, Option.elim_none, Sem.runT_eq, hr, GStep.bare_after, doReturn, GStep.bare_go]
    unfold settle; split <;> (try split) <;> simp_all
theorem leaveF_sound {ih : Run} (hih : RunOk E ν ih) {fn n : Nat} {T : Tr AV} {todo : List AItem} {ds : List ADef} {kd : CallKind} {ro : Option Nat} {fn' : Nat} {tmps : Array Value} {todo' : List Item} {ds' : List Deferred} {kd' : CallKind} {ro' : Option Nat}
    (h : FRel φ ν ⟨fn, n, T, todo, ds, .run, kd, ro⟩ ⟨fn', tmps, todo', ds', .run, kd', ro'⟩) {jump : Option Code} (hl : LeavesWith todo' jump)
    {cs : List AFrame} {C : List Frame} (hcs : FsRel φ ν cs C) (hm : MRel E φ ν B m w) (hb : Bot b ⟨fn', tmps, todo', ds', .run, kd', ro'⟩ C) :
    Good E φ ν B b (lone ⟨fn', tmps, todo', ds', .run, kd', ro'⟩ (C ++ b.frames) w) w (leaveF ih fn n T todo ds kd ro cs m jump) := by
  obtain ⟨h1, h2, h3, h4, h5, h6, h7⟩ := h
  simp only at h1 h2 h3 h4 h5 h6 h7
  subst h6
  unfold leaveF
  cases h7 with
  | none =>
    simp only
    split
    · exact Good.step (step_leave_none hl (.inl rfl)) (hih φ B b _ cs m w _ C ⟨h1, h2, h3, h4, .returning, rfl, .none⟩ hcs hm (hb.congr rfl rfl))
    · exact Good.step (step_leave_none hl (.inr rfl)) (hih φ B b _ cs m w _ C ⟨h1, h2, h3, h4, .returning, rfl, .none⟩ hcs hm (hb.congr rfl rfl))
    · exact good_fail
  | @some l L hL =>
    simp only
    split
    · rename_i st p fn0 n0 T0 ps a0 b0 d0 hg
      obtain ⟨o, q1, q2⟩ := hm.blk l _ L hg hL
      cases q2 with
      | @loop _ _ _ _ _ _ _ _ _ _ L' tm hL' hT' =>
        have hr := run_endRound (P := E.P) jump q1
        have hm' : MRel E φ ν B (m.set l (some (.loop (nextLoop jump) jump fn0 n0 T0 ps a0 b0 d0))) (w.putObj L.b (.loop ⟨if jump.isNone then .ready else .done, jump, fn0, tm, ps, a0, b0, L'.b⟩)) := by
          refine hm.setB hg hL rfl ?_
          have : nextLoop jump = (if jump.isNone then .ready else .done) := by cases jump <;> rfl
          rw [this]
          exact .loop hL' hT'
        have hbl : Below B w (w.putObj L.b (.loop ⟨if jump.isNone then .ready else .done, jump, fn0, tm, ps, a0, b0, L'.b⟩)) := Below.setB hm hg hL rfl _
        have hv : VRel φ ν (.bool (isNoneB jump)) (.bool jump.isNone) := by
          have : isNoneB jump = jump.isNone := by cases jump <;> rfl
          rw [this]; exact .bool _
        generalize w.putObj L.b (.loop ⟨if jump.isNone then .ready else .done, jump, fn0, tm, ps, a0, b0, L'.b⟩) = w1 at hr hm' hbl
        unfold doReturnA
        cases hcs with
        | nil =>
          simp only
          split
          · intro _
            refine ⟨_, .leaf _, _, φ, _, Ext.refl φ, hm', hbl, hv, ?_⟩
            cases b with
            | leave f0 base => have := hb.2; simp at this
            | back c cs => exact Steps.one (step_leave_round hl hr rfl)
          · exact good_fail
        | @cons c Fc cs C hc hcs =>
          simp only
          split
          · exact Good.back (Steps.one (step_leave_round hl hr rfl)) (Ext.refl φ) hbl (caller_sound hih hc hcs hm' hb.tail hv)
          · refine Good.back (Steps.one (step_leave_roundD hl hr rfl)) (Ext.refl φ) hbl ?_
            have hs := settle_rel hc
            have hb' : Bot b { Fc with mode := settle Fc.mode } C := hb.tail.congr rfl rfl
            split
            · rename_i hmd
              rw [hmd] at hs
              exact hih φ B b _ cs _ _ _ C hs hcs hm' hb'
            · rename_i hmd
              split at hs
              · rename_i h'; exact absurd h' (hmd _ _)
              · exact hih φ B b _ cs _ _ _ C hs hcs hm' hb'
          · exact good_fail
    · exact good_fail
end
end Go.Ev
namespace Go.Ev
open Go Go.RowKit
section
variable {E : Env} {φ φ' : Phi} {ν : Nat → Int} {B : Nat} {b : Base} {w w' : World} {M M' : Machine} {t : Tree} {m m' : AMem} {P : Program}
/-- Codes that are neither a range over a function nor a region. -/
def plainC : Code → Bool
  | .rangeFunc .. | .region .. => false
  | _ => true
theorem fromC_sound {ih : Run} (hih : RunOk E ν ih) {fn n : Nat} {T : Tr AV} {c : Code} {k : List AItem} {ds : List ADef} {kd : CallKind} {ro : Option Nat} {fn' : Nat} {tmps : Array Value} {K : List Item} {ds' : List Deferred} {kd' : CallKind} {ro' : Option Nat}
    (hp : plainC c = true) (h : FRel φ ν ⟨fn, n, T, .code c :: k, ds, .run, kd, ro⟩ ⟨fn', tmps, .code c :: K, ds', .run, kd', ro'⟩)
    {cs : List AFrame} {C : List Frame} (hcs : FsRel φ ν cs C) (hm : MRel E φ ν B m w) (hb : Bot b ⟨fn', tmps, .code c :: K, ds', .run, kd', ro'⟩ C) :
    Good E φ ν B b (lone ⟨fn', tmps, .code c :: K, ds', .run, kd', ro'⟩ (C ++ b.frames) w) w (stepCode E ih fn n T c k ds kd ro cs m) := by
  have hF := h
  obtain ⟨h1, h2, h3, h4, h5, h6, h7⟩ := h
  simp only at h1 h2 h3 h4 h5 h6 h7
  have hk : IsRel φ k K := by cases h3 with | cons _ h => exact h
  have go : ∀ {k' : List AItem} {K' : List Item}, IsRel φ k' K' → Go.step E.P (lone ⟨fn', tmps, .code c :: K, ds', .run, kd', ro'⟩ (C ++ b.frames) w) = .next (lone ⟨fn', tmps, K', ds', .run, kd', ro'⟩ (C ++ b.frames) w) →
      Good E φ ν B b (lone ⟨fn', tmps, .code c :: K, ds', .run, kd', ro'⟩ (C ++ b.frames) w) w (ih ⟨fn, n, T, k', ds, .run, kd, ro⟩ cs m) :=
    fun hk' hs => Good.step hs (hih φ B b _ cs m w _ C ⟨h1, h2, hk', h4, .run, h6, h7⟩ hcs hm (hb.congr rfl rfl))
  cases c with
  | ret => exact leaveF_sound hih hF (.ret _) hcs hm hb
  | skip => exact go hk (step_lone_go (by simp [stepG, stepG.exec]))
  | label l => exact go hk (step_lone_go (by simp [stepG, stepG.exec]))
  | seq a b => exact go (.cons (.code _) (.cons (.code _) hk)) (step_lone_go (by simp [stepG, stepG.exec]))
  | block id body => exact go (.cons (.code _) (.cons (.inBlock _) hk)) (step_lone_go (by simp [stepG, stepG.exec]))
  | loop body => exact go (.cons (.code _) (.cons (.inLoop _) hk)) (step_lone_go (by simp [stepG, stepG.exec]))
  | scope body => exact go (.cons (.code _) (.cons (.inScope _) hk)) (step_lone_go (by simp [stepG, stepG.exec]))
  | cond x a b' =>
    have hx := aev_sound (E := E) (a := ⟨tmps, ds'⟩) hm.toGRel h2 x
    have he : ∀ y, Frame.eval ⟨fn', tmps, .code (.cond x a b') :: K, ds', .run, kd', ro'⟩ y = Act.eval ⟨tmps, ds'⟩ y := by intro y; cases y <;> rfl
    simp only [stepCode]
    unfold condF
    split
    · rename_i hv
      rw [hv] at hx
      have := hx.bool_inv
      exact go (.cons (.code _) hk) (step_lone_go (by simp [stepG, stepG.exec, he, this]))
    · rename_i hv
      rw [hv] at hx
      have := hx.bool_inv
      exact go (.cons (.code _) hk) (step_lone_go (by simp [stepG, stepG.exec, he, this]))
    · exact good_fail
  | exit id =>
    simp only [stepCode]
    split
    · rename_i k' hx
      obtain ⟨K', q1, q2⟩ := exitTo_some hk hx
      exact go q2 (step_lone_go (by simp [stepG, stepG.exec, q1]))
    · rename_i hx
      exact leaveF_sound hih hF (.exit _ _ (exitTo_none hk hx)) hcs hm hb
  | goto l =>
    simp only [stepCode]
    split
    · rename_i k' hx
      obtain ⟨K', q1, q2⟩ := goto_some hk hx
      exact go q2 (step_lone_go (by simp [stepG, stepG.exec, q1]))
    · rename_i hx
      exact leaveF_sound hih hF (.goto _ _ (goto_none hk hx)) hcs hm hb
  | rangeFunc f ps a b' => cases hp
  | region id ops dr => cases hp
  | refuse why => exact good_fail
end
end Go.Ev
namespace Go.Ev
open Go Go.RowKit
section
variable {E : Env} {φ φ' : Phi} {ν : Nat → Int} {B : Nat} {b : Base} {w w' : World} {M M' : Machine} {t : Tree} {m m' : AMem} {P : Program}
theorem step_rangeFunc {fn : Nat} {tmps : Array Value} {K : List Item} {ds : List Deferred} {kd : CallKind} {ro : Option Nat} {cs : List Frame} {f : Operand} {ps : Array Tmp} {a b : Code} {l g : Nat} {mark : List Deferred} {args : Array Value}
    (hel : (Instr.enterLoop fn tmps ps a b ro).run P w = .ok (l, mark) w')
    (hcall : (do let d ← Deferred.ofValue (Act.eval ⟨tmps, ds⟩ f) #[.func (.yield l) #[] #[]]; invoke d.target d.args : Sem Next).run P w' = .ok (.enter g args) w') :
    Go.step P (lone ⟨fn, tmps, .code (.rangeFunc f ps a b) :: K, ds, .run, kd, ro⟩ cs w) = .next (lone (Frame.enter P g args .normal) (⟨fn, tmps, .inRangeFunc l :: K, mark ++ ds, .run, kd, ro⟩ :: cs) w') := by
  have he : ∀ y, Frame.eval ⟨fn, tmps, .inRangeFunc l :: K, mark ++ ds, .run, kd, ro⟩ y = Act.eval ⟨tmps, ds⟩ y := by intro y; cases y <;> rfl
  have hc : ∀ v, Frame.eval ⟨fn, tmps, .inRangeFunc l :: K, mark ++ ds, .run, kd, ro⟩ (.const v) = v := fun _ => rfl
  refine step_lone_go ?_
  simp only [stepG, stepG.exec, Sem.runT_eq, hel, GStep.bare_after, stepG.apply, resolve, he, if_true]
  rw [show (#[Operand.const (.func (.yield l) #[] #[])].map (Frame.eval ⟨fn, tmps, .inRangeFunc l :: K, mark ++ ds, .run, kd, ro⟩)) = #[.func (.yield l) #[] #[]] from by simp [Frame.eval]]
  rw [hcall]
  simp [GStep.bare_after]
theorem goRF_sound {ih : Run} (hih : RunOk E ν ih) (hS : SpecOk E ν) {fn n : Nat} {T : Tr AV} {k : List AItem} {ds : List ADef} {kd : CallKind} {ro : Option Nat} {tmps : Array Value} {K : List Item} {ds0 ds' mark : List Deferred} {ro' : Option Nat}
    {f : Operand} {ps : Array Tmp} {x y : Code} {d : Nat} {L0 : Loc} {w0 : World} {φ0 : Phi}
    (h2 : TRel φ ν n T tmps) (h3 : IsRel φ k K) (h4 : DsRel φ ν ds ds') (h7 : RoRel φ ro ro') (hd : φ d = some L0) (hx0 : Ext φ0 φ) (hb0 : Below B w0 w) (hds : ds' = mark ++ ds0)
    (hel : (Instr.enterLoop fn tmps ps x y ro').run E.P w0 = .ok (w.heap.size, mark) (w.alloc (.loop ⟨.ready, none, fn, tmps, ps, x, y, L0.b⟩)))
    {cs : List AFrame} {C : List Frame} (hcs : FsRel φ ν cs C) (hm : MRel E φ ν B m w) (hb : ∀ td dd, Bot b ⟨fn, tmps, td, dd, .run, kd, ro'⟩ C) :
    Good E φ0 ν B b (lone ⟨fn, tmps, .code (.rangeFunc f ps x y) :: K, ds0, .run, kd, ro'⟩ (C ++ b.frames) w0) w0 (goRF E ih fn n T k ds kd ro cs f ps x y d m) := by
  unfold goRF
  rw [AMem.new_eq]
  have hx := hm.ext_put ⟨w.heap.size, 0, 0⟩
  have hm' := hm.push (x := .loop .ready none fn n T ps x y d) (o := .loop ⟨.ready, none, fn, tmps, ps, x, y, L0.b⟩) (L := ⟨w.heap.size, 0, 0⟩) rfl (.loop (hx _ _ hd) (h2.mono hx))
  have hl := Phi.put_self φ m.next ⟨w.heap.size, 0, 0⟩
  have hev := aev_sound (a := ⟨tmps, ds0⟩) hm'.toGRel (h2.mono hx) f
  have hinv := opInvoke_sound hS hm' hev (args := [.yield m.next]) (cargs := [.func (.yield w.heap.size) #[] #[]]) (.cons (.yield hl) .nil)
  split
  · rename_i g as mm hcall
    rw [hcall] at hinv
    obtain ⟨cargs, hr, hla, rfl⟩ := hinv
    unfold pushT
    split
    · rename_i fr hen
      refine Good.back (Steps.one (step_rangeFunc hel hr)) (hx0.trans hx) (hb0.trans ((Pushed.alloc w (.loop ⟨.ready, none, fn, tmps, ps, x, y, L0.b⟩)).below hm.base)) ?_
      rw [← hds]
      exact hih _ B b _ _ _ _ _ (_ :: C) (enterA_sound hla hen) (.cons ⟨rfl, h2.mono hx, .cons (.inRF hl) (h3.mono hx), h4.mono hx, .run, rfl, h7.mono hx⟩ (hcs.mono hx)) hm' (hb _ _)
    · exact good_fail
  · exact good_fail
theorem stepRF_sound {ih : Run} (hih : RunOk E ν ih) (hS : SpecOk E ν) {fn n : Nat} {T : Tr AV} {f : Operand} {ps : Array Tmp} {x y : Code} {k : List AItem} {ds : List ADef} {kd : CallKind} {ro : Option Nat} {fn' : Nat} {tmps : Array Value} {K : List Item} {ds' : List Deferred} {kd' : CallKind} {ro' : Option Nat}
    (h : FRel φ ν ⟨fn, n, T, .code (.rangeFunc f ps x y) :: k, ds, .run, kd, ro⟩ ⟨fn', tmps, .code (.rangeFunc f ps x y) :: K, ds', .run, kd', ro'⟩)
    {cs : List AFrame} {C : List Frame} (hcs : FsRel φ ν cs C) (hm : MRel E φ ν B m w) (hb : Bot b ⟨fn', tmps, .code (.rangeFunc f ps x y) :: K, ds', .run, kd', ro'⟩ C) :
    Good E φ ν B b (lone ⟨fn', tmps, .code (.rangeFunc f ps x y) :: K, ds', .run, kd', ro'⟩ (C ++ b.frames) w) w (stepCode E ih fn n T (.rangeFunc f ps x y) k ds kd ro cs m) := by
  obtain ⟨h1, h2, h3, h4, h5, h6, h7⟩ := h
  simp only at h1 h2 h3 h4 h5 h6 h7
  subst h1; subst h6
  have hk : IsRel φ k K := by cases h3 with | cons _ h => exact h
  simp only [stepCode]
  unfold stepRF
  cases h7 with
  | @some l L hL =>
    simp only
    split
    · rename_i st p fn0 n0 T0 ps0 a0 b0 d hg
      obtain ⟨o, q1, q2⟩ := hm.blk l _ L hg hL
      cases q2 with
      | @loop _ _ _ _ _ _ _ _ _ _ L' tm hL' hT' =>
        refine goRF_sound hih hS h2 hk h4 (.some hL) hL' (Ext.refl φ) (Below.refl _ _) (mark := []) rfl ?_ hcs hm (fun td dd => hb.congr rfl rfl)
        unfold Instr.enterLoop
        simp only [Sem.run_bind, run_getLoop q1, Result.andThen_ok, Sem.run_pure, run_newObj]
    · exact good_fail
  | none =>
    simp only
    rw [AMem.new_eq]
    have hx := hm.ext_put ⟨w.heap.size, 0, 0⟩
    have hm' := hm.push (x := .deferred (some [])) (o := .deferred (some [])) (L := ⟨w.heap.size, 0, 0⟩) rfl (.deferredS .nil)
    have hl := Phi.put_self φ m.next ⟨w.heap.size, 0, 0⟩
    refine goRF_sound hih hS (h2.mono hx) (hk.mono hx) (.cons ⟨.collected hl, .nil⟩ (h4.mono hx)) .none hl hx ((Pushed.alloc w (.deferred (some []))).below hm.base) (mark := [{ target := .collected w.heap.size, args := #[] }]) rfl ?_ (hcs.mono hx) hm' (fun td dd => hb.congr rfl rfl)
    rw [run_enterLoop_outer, World.size_alloc]
end
end Go.Ev
namespace Go.Ev
open Go Go.RowKit
section
variable {E : Env} {φ φ' : Phi} {ν : Nat → Int} {B : Nat} {b : Base} {w w' : World} {M M' : Machine} {t : Tree} {m m' : AMem} {P : Program}
theorem beginRound_sound {ih : Run} (hih : RunOk E ν ih) {fn n : Nat} {T : Tr AV} {k : List AItem} {ds : List ADef} {kd : CallKind} {ro : Option Nat} {fn' : Nat} {tmps : Array Value} {K : List Item} {ds' : List Deferred} {kd' : CallKind} {ro' : Option Nat}
    (h : FRel φ ν ⟨fn, n, T, .beginRound :: k, ds, .run, kd, ro⟩ ⟨fn', tmps, .beginRound :: K, ds', .run, kd', ro'⟩)
    {cs : List AFrame} {C : List Frame} (hcs : FsRel φ ν cs C) (hm : MRel E φ ν B m w) (hb : Bot b ⟨fn', tmps, .beginRound :: K, ds', .run, kd', ro'⟩ C) :
    Good E φ ν B b (lone ⟨fn', tmps, .beginRound :: K, ds', .run, kd', ro'⟩ (C ++ b.frames) w) w (stepItem E ih fn n T .beginRound k ds kd ro cs m) := by
  obtain ⟨h1, h2, h3, h4, h5, h6, h7⟩ := h
  simp only at h1 h2 h3 h4 h5 h6 h7
  have hk : IsRel φ k K := by cases h3 with | cons _ h => exact h
  simp only [stepItem]
  cases h7 with
  | none => exact good_fail
  | @some l L hL =>
    simp only
    split
    · rename_i p fn0 n0 T0 ps a0 b0 d hg
      obtain ⟨o, q1, q2⟩ := hm.blk l _ L hg hL
      cases q2 with
      | @loop _ _ _ _ _ _ _ _ _ _ L' tm hL' hT' =>
        have hr := run_beginRound (P := E.P) q1 rfl
        have hm' : MRel E φ ν B (m.set l (some (.loop .busy p fn0 n0 T0 ps a0 b0 d))) (w.putObj L.b (.loop ⟨.busy, p, fn0, tm, ps, a0, b0, L'.b⟩)) := hm.setB hg hL rfl (.loop hL' hT')
        have hbl : Below B w (w.putObj L.b (.loop ⟨.busy, p, fn0, tm, ps, a0, b0, L'.b⟩)) := Below.setB hm hg hL rfl _
        refine Good.back (Steps.one (step_lone_go (cs' := C ++ b.frames) (fr' := ⟨fn', tmps, K, ds', .run, kd', some L.b⟩) (w' := w.putObj L.b (.loop ⟨.busy, p, fn0, tm, ps, a0, b0, L'.b⟩)) ?_)) (Ext.refl φ) hbl (hih φ B b _ cs _ _ _ C ⟨h1, h2, hk, h4, .run, h6, .some hL⟩ hcs hm' (hb.congr rfl rfl))
        simp only [stepG, stepG.exec, stepG.apply, Option.elim_some, if_true, Sem.runT_eq, Sem.run_bind, hr, Result.andThen_ok, Sem.run_pure, GStep.bare_after, Frame.finish, GStep.bare_go]
    · exact good_fail
theorem endRF_sound {ih : Run} (hih : RunOk E ν ih) {fn n : Nat} {T : Tr AV} {k : List AItem} {ds : List ADef} {kd : CallKind} {ro : Option Nat} {fn' : Nat} {tmps : Array Value} {K : List Item} {ds' : List Deferred} {kd' : CallKind} {ro' : Option Nat} {l : Nat} {L : Loc} (hL : φ l = some L)
    (h : FRel φ ν ⟨fn, n, T, .endRF l :: k, ds, .run, kd, ro⟩ ⟨fn', tmps, .endRangeFunc L.b :: K, ds', .run, kd', ro'⟩)
    {cs : List AFrame} {C : List Frame} (hcs : FsRel φ ν cs C) (hm : MRel E φ ν B m w) (hb : Bot b ⟨fn', tmps, .endRangeFunc L.b :: K, ds', .run, kd', ro'⟩ C) :
    Good E φ ν B b (lone ⟨fn', tmps, .endRangeFunc L.b :: K, ds', .run, kd', ro'⟩ (C ++ b.frames) w) w (stepItem E ih fn n T (.endRF l) k ds kd ro cs m) := by
  obtain ⟨h1, h2, h3, h4, h5, h6, h7⟩ := h
  simp only at h1 h2 h3 h4 h5 h6 h7
  have hk : IsRel φ k K := by cases h3 with | cons _ h => exact h
  have hk' : ∀ p : Option Code, IsRel φ (match p with | some c => .code c :: k | none => k) ((p.map Item.code).toList ++ K) := by
    intro p
    cases p with
    | none => exact hk
    | some c => exact .cons (.code c) hk
  simp only [stepItem]
  split
  · exact good_fail
  · rename_i st p fn0 n0 T0 ps a0 b0 d hne hg
    obtain ⟨o, q1, q2⟩ := hm.blk l _ L hg hL
    cases q2 with
    | @loop _ _ _ _ _ _ _ _ _ _ L' tm hL' hT' =>
      have hst : st ≠ .busy := by
        intro e; exact hne e
      have hr := run_endLoop (P := E.P) q1 hst
      have hm' : MRel E φ ν B (m.set l (some (.loop .exhausted p fn0 n0 T0 ps a0 b0 d))) (w.putObj L.b (.loop ⟨.exhausted, p, fn0, tm, ps, a0, b0, L'.b⟩)) := hm.setB hg hL rfl (.loop hL' hT')
      have hbl : Below B w (w.putObj L.b (.loop ⟨.exhausted, p, fn0, tm, ps, a0, b0, L'.b⟩)) := Below.setB hm hg hL rfl _
      refine Good.back (Steps.one (step_lone_go (cs' := C ++ b.frames) (fr' := ⟨fn', tmps, (p.map Item.code).toList ++ K, ds', .run, kd', ro'⟩) (w' := w.putObj L.b (.loop ⟨.exhausted, p, fn0, tm, ps, a0, b0, L'.b⟩)) ?_)) (Ext.refl φ) hbl (hih φ B b _ cs _ _ _ C ⟨h1, h2, hk' p, h4, .run, h6, h7⟩ hcs hm' (hb.congr rfl rfl))
      simp only [stepG, stepG.exec, Sem.runT_eq, hr, GStep.bare_after, GStep.bare_go]
  · exact good_fail
theorem wantedA_sound {ops : Array Oper} {n : Nat} {T : Tr AV} {tmps : Array Value} (hT : TRel φ ν n T tmps) {o : Oper} {r : Bool} (h : wantedA ops T o = some r) : Region.wanted o (yielded ops tmps) = r := by
  unfold wantedA at h
  unfold Region.wanted
  split at h
  · rename_i hg
    simp only [Option.some.injEq] at h
    rw [hg]; exact h
  · rename_i j want hg
    rw [hg]
    simp only [yielded]
    split at h
    · rename_i g hj
      rw [hj]
      simp only [Option.bind_some]
      split at h
      · rename_i d hd
        rw [hd]
        simp only [Option.bind_some]
        have hv := hT.2 d
        unfold yieldsA at h
        have hin : ∀ x, tmps.getD d undef = x → x ≠ undef → tmps[d]? = some x := by
          intro x hx hne
          rw [Array.getD_eq_getD_getElem?] at hx
          cases hq : tmps[d]? with
          | none => rw [hq] at hx; exact absurd hx.symm hne
          | some y => rw [hq] at hx; simpa using hx
        split at h
        · rename_i bb hb
          simp only [Option.some.injEq] at h
          rw [hb] at hv
          rw [hin _ hv.bool_inv (by simp [undef])]
          simp only
          rw [← h]
          cases bb <;> cases want <;> rfl
        · cases h
        · cases h
        · cases h
        · cases h
        · rename_i n1 n2 n3 n4 n5
          simp only [Option.some.injEq] at h
          subst h
          cases hq : tmps[d]? with
          | none => simp
          | some y =>
            have hy : tmps.getD d undef = y := by simp [Array.getD_eq_getD_getElem?, hq]
            rw [hy] at hv
            cases y <;> first
              | (simp; done)
              | skip
            exfalso
            revert hv n1 n2 n3 n4 n5
            generalize tget T d = z
            intro n1 n2 n3 n4 n5 hv
            cases hv <;> first
              | exact n1 _ rfl
              | exact n2 rfl
              | exact n3 _ rfl
              | exact n4 rfl
              | exact n5 _ rfl
      · rename_i hd
        simp only [Option.some.injEq] at h
        rw [hd]; simp [← h]
    · rename_i hj
      simp only [Option.some.injEq] at h
      rw [hj]; simp [← h]
end
end Go.Ev
namespace Go.Ev
open Go Go.RowKit
section
variable {E : Env} {φ φ' : Phi} {ν : Nat → Int} {B : Nat} {b : Base} {w w' : World} {M M' : Machine} {t : Tree} {m m' : AMem} {P : Program}
section
variable {fn : Nat} {tmps : Array Value} {ops : Array Oper} {i : Nat} {is : List Nat} {K : List Item} {ds : List Deferred} {kd : CallKind} {ro : Option Nat} {o : Oper} {cs : List Frame}
theorem at_op (ho : ops[i]? = some o) (hw : Region.wanted o (yielded ops tmps) = true) (hd : ro = none ∨ ∀ c, o.op ≠ .defer c) :
    stepG P true { frame := ⟨fn, tmps, .inRegion ops (i :: is) :: K, ds, .run, kd, ro⟩, callers := cs, status := .running, dying := none } w =
      stepG.apply P true ⟨fn, tmps, .inRegion ops (i :: is) :: K, ds, .run, kd, ro⟩ cs none (execOp (Act.eval ⟨tmps, ds⟩) o) w := by
  have he : Frame.eval ⟨fn, tmps, .inRegion ops (i :: is) :: K, ds, .run, kd, ro⟩ = Act.eval ⟨tmps, ds⟩ := by funext y; cases y <;> rfl
  cases ro with
  | none => simp [stepG, stepG.exec, stepG.oper, Frame.oper?, ho, hw, he]
  | some l =>
    have hd' : ∀ c, o.op ≠ .defer c := by rcases hd with q | q; cases q; exact q
    simp only [stepG, stepG.exec, stepG.oper, Frame.oper?, ho, hw, he, Option.map_some, Option.getD_some, if_true]
    split
    · rename_i h1 h2; exact absurd h2 (hd' _)
    · rfl
theorem step_op_value (ho : ops[i]? = some o) (hw : Region.wanted o (yielded ops tmps) = true) (hd : ro = none ∨ ∀ c, o.op ≠ .defer c) {x : Value}
    (hr : (execOp (Act.eval ⟨tmps, ds⟩) o).run P w = .ok (.value x) w' ∨ ((execOp (Act.eval ⟨tmps, ds⟩) o).run P w = .ok .skip w' ∧ x = undef)) :
    Go.step P (lone ⟨fn, tmps, .inRegion ops (i :: is) :: K, ds, .run, kd, ro⟩ cs w) = .next (lone (Frame.finish ⟨fn, tmps, .inRegion ops (i :: is) :: K, ds, .run, kd, ro⟩ x) cs w') := by
  refine step_lone_go ?_
  rw [at_op ho hw hd]
  rcases hr with hr | ⟨hr, rfl⟩ <;> simp [stepG.apply, Sem.runT_eq, hr, GStep.bare_after]
theorem step_op_enter (ho : ops[i]? = some o) (hw : Region.wanted o (yielded ops tmps) = true) (hd : ro = none ∨ ∀ c, o.op ≠ .defer c) {f : Nat} {args : Array Value}
    (hr : (execOp (Act.eval ⟨tmps, ds⟩) o).run P w = .ok (.enter f args) w') :
    Go.step P (lone ⟨fn, tmps, .inRegion ops (i :: is) :: K, ds, .run, kd, ro⟩ cs w) = .next (lone (Frame.enter P f args .normal) (⟨fn, tmps, .inRegion ops (i :: is) :: K, ds, .run, kd, ro⟩ :: cs) w') := by
  refine step_lone_go ?_
  rw [at_op ho hw hd]
  simp [stepG.apply, Sem.runT_eq, hr, GStep.bare_after]
theorem step_op_round (ho : ops[i]? = some o) (hw : Region.wanted o (yielded ops tmps) = true) (hd : ro = none ∨ ∀ c, o.op ≠ .defer c) {l f : Nat} {tm : Array Value} {x y : Code}
    (hr : (execOp (Act.eval ⟨tmps, ds⟩) o).run P w = .ok (.round l f tm x y) w') :
    Go.step P (lone ⟨fn, tmps, .inRegion ops (i :: is) :: K, ds, .run, kd, ro⟩ cs w) = .next (lone (Frame.round l f tm x y .normal) (⟨fn, tmps, .inRegion ops (i :: is) :: K, ds, .run, kd, ro⟩ :: cs) w') := by
  refine step_lone_go ?_
  rw [at_op ho hw hd]
  simp [stepG.apply, Sem.runT_eq, hr, GStep.bare_after]
theorem step_op_defer (ho : ops[i]? = some o) (hw : Region.wanted o (yielded ops tmps) = true) (hd : ro = none ∨ ∀ c, o.op ≠ .defer c) {d : Deferred}
    (hr : (execOp (Act.eval ⟨tmps, ds⟩) o).run P w = .ok (.defer d) w') :
    Go.step P (lone ⟨fn, tmps, .inRegion ops (i :: is) :: K, ds, .run, kd, ro⟩ cs w) = .next (lone (Frame.finish ⟨fn, tmps, .inRegion ops (i :: is) :: K, d :: ds, .run, kd, ro⟩ undef) cs w') := by
  refine step_lone_go ?_
  rw [at_op ho hw hd]
  simp [stepG.apply, Sem.runT_eq, hr, GStep.bare_after]
theorem step_op_panic (ho : ops[i]? = some o) (hw : Region.wanted o (yielded ops tmps) = true) (hd : ro = none ∨ ∀ c, o.op ≠ .defer c) {v : Value}
    (hr : (execOp (Act.eval ⟨tmps, ds⟩) o).run P w = .halt (.panic v) w') :
    Go.step P (lone ⟨fn, tmps, .inRegion ops (i :: is) :: K, ds, .run, kd, ro⟩ cs w) = .next (lone ⟨fn, tmps, .inRegion ops (i :: is) :: K, ds, .panicking [{ v, recovered := false }], kd, ro⟩ cs w') := by
  refine step_lone_go ?_
  rw [at_op ho hw hd]
  simp [stepG.apply, Sem.runT_eq, hr, GStep.bare_after, Frame.raise]
theorem step_op_recover (ho : ops[i]? = some o) (hw : Region.wanted o (yielded ops tmps) = true) {cs' : List Frame} {x : Value}
    (hr : (execOp (Act.eval ⟨tmps, ds⟩) o).run P w = .ok .recover w')
    (ht : tryRecover ⟨fn, tmps, .inRegion ops (i :: is) :: K, ds, .run, kd, none⟩ cs = some (x, cs') ∨ (tryRecover ⟨fn, tmps, .inRegion ops (i :: is) :: K, ds, .run, kd, none⟩ cs = none ∧ x = .nilIface ∧ cs' = cs)) :
    Go.step P (lone ⟨fn, tmps, .inRegion ops (i :: is) :: K, ds, .run, kd, none⟩ cs w) = .next (lone (Frame.finish ⟨fn, tmps, .inRegion ops (i :: is) :: K, ds, .run, kd, none⟩ x) cs' w') := by
  refine step_lone_go ?_
  rw [at_op ho hw (.inl rfl)]
  rcases ht with ht | ⟨ht, rfl, rfl⟩ <;> simp [stepG.apply, Sem.runT_eq, hr, GStep.bare_after, ht]
theorem step_op_skip' (hw : ops[i]? = some o) (hn : Region.wanted o (yielded ops tmps) = false) :
    Go.step P (lone ⟨fn, tmps, .inRegion ops (i :: is) :: K, ds, .run, kd, ro⟩ cs w) = .next (lone (Frame.finish ⟨fn, tmps, .inRegion ops (i :: is) :: K, ds, .run, kd, ro⟩ undef) cs w) :=
  step_lone_go (by simp [stepG, stepG.exec, hw, hn])
theorem step_reg_end : Go.step P (lone ⟨fn, tmps, .inRegion ops [] :: K, ds, .run, kd, ro⟩ cs w) = .next (lone ⟨fn, tmps, K, ds, .run, kd, ro⟩ cs w) :=
  step_lone_go (by simp [stepG, stepG.exec])
end
end
end Go.Ev
namespace Go.Ev
open Go Go.RowKit
section
variable {E : Env} {φ φ' : Phi} {ν : Nat → Int} {B : Nat} {b : Base} {w w' : World} {M M' : Machine} {t : Tree} {m m' : AMem} {P : Program}
theorem aop_sound (hν : Bounded E ν) (hS : SpecOk E ν) (h : MRel E φ ν B m w) {n : Nat} {T : Tr AV} {a : Act} (hT : TRel φ ν n T a.tmps) (o : Oper) :
    ResOk E φ ν B m w ((execOp a.eval o).run E.P w) (aop E T m o.op) := by
  unfold aop
  split
  · rename_i v hv
    obtain ⟨x, h1, h2⟩ := pop_sound hν h.toGRel hT hv (w := w)
    exact .inl ⟨x, w, .inl h1, φ, Ext.refl φ, h, Below.refl _ _, h2⟩
  · split
    · rename_i v hv
      obtain ⟨x, h1, h2⟩ := rop_sound h hT hv
      exact .inl ⟨x, w, .inl h1, φ, Ext.refl φ, h, Below.refl _ _, h2⟩
    · split
      · rename_i bl f hl
        obtain ⟨w1, ob, L, v, h1, h2, h3, h4, h5⟩ := lop_sound (w := w) h.toGRel hT hl
        rw [AMem.new_eq]
        exact .inl ⟨v, w1, .inl h1, Pushed.after h h2 h3 h4 (fun φ' hi _ => h5 _ φ' hi)⟩
      · exact eop_sound hS h hT o
theorem putAll_sound {n : Nat} : ∀ (ts : List Nat) (as : List AV) (cas : List Value) (T T' : Tr AV) (tmps : Array Value), LRel φ ν as cas → TRel φ ν n T tmps → putAll n T ts as = some T' →
    ts.length = cas.length ∧ TRel φ ν n T' ((ts.zip cas).foldl (fun tmps (t, a) => tmps.setIfInBounds t a) tmps) := by
  intro ts
  induction ts with
  | nil =>
    intro as cas T T' tmps hl hT h
    cases as with
    | nil => simp only [putAll, Option.some.injEq] at h; subst h; rw [hl.nil_inv]; exact ⟨rfl, hT⟩
    | cons a as => simp [putAll] at h
  | cons t ts ih =>
    intro as cas T T' tmps hl hT h
    cases as with
    | nil => simp [putAll] at h
    | cons a as =>
      obtain ⟨c, cs, rfl, hc, hcs⟩ := hl.cons_inv
      unfold putAll at h
      split at h
      · rename_i hb
        obtain ⟨q1, q2⟩ := ih as cs _ T' _ hcs (hT.put hc (nat_blt hb)) h
        exact ⟨by simp [q1], q2⟩
      · cases h
theorem roundFrame_sound (hm : MRel E φ ν B m w) {l : Nat} {L : Loc} (hL : φ l = some L) {args : List AV} {cargs : List Value} (ha : LRel φ ν args cargs) {fr : AFrame} (h : roundFrame l args .normal m = some fr) :
    ∃ f tm x y, (Instr.yield L.b cargs.toArray).run E.P w = .ok (.round L.b f tm x y) w ∧ FRel φ ν fr (Frame.round L.b f tm x y .normal) := by
  unfold roundFrame at h
  split at h
  · rename_i st p fn0 n0 T0 ps a0 b0 d hg
    obtain ⟨o, q1, q2⟩ := hm.blk l _ L hg hL
    cases q2 with
    | @loop _ _ _ _ _ _ _ _ _ _ L' tm hL' hT' =>
      split at h
      · rename_i T1 hp
        simp only [Option.some.injEq] at h; subst h
        obtain ⟨e1, e2⟩ := putAll_sound ps.toList args cargs T0 T1 tm ha hT' hp
        refine ⟨fn0, _, a0, b0, run_yield q1 (by simpa using e1.symm), rfl, ?_, .cons (.code _) (.cons .beginRound (.cons (.code _) .nil)), .nil, .run, rfl, .some hL⟩
        simp only [Frame.round]
        rw [← Array.foldl_toList]
        simpa using e2
      · cases h
  · cases h
end
end Go.Ev
namespace Go.Ev
open Go Go.RowKit
section
variable {E : Env} {φ φ' : Phi} {ν : Nat → Int} {B : Nat} {b : Base} {w w' : World} {M M' : Machine} {t : Tree} {m m' : AMem} {P : Program}
/-- What a call that is run to its end is to be. -/
def JoinOk (E : Env) (ν : Nat → Int) (ih : Run) : Prop :=
  ∀ φ B b m w f args cargs (F : Frame) (X : List Frame) k, MRel E φ ν B m w → LRel φ ν args cargs →
    (∀ φ' w' m' v x, Ext φ φ' → Below B w w' → MRel E φ' ν B m' w' → VRel φ' ν v x → Good E φ' ν B b (lone (F.finish x) X w') w' (k v m')) →
    Good E φ ν B b (lone (Frame.enter E.P f cargs.toArray .normal) (F :: X) w) w (joinCall E ih f args m k)
theorem FRel.run {fr : AFrame} {F : Frame} (h : FRel φ ν fr F) (hx : Ext φ φ') : FRel φ' ν fr F := h.mono hx
theorem stepOp_sound {ih : Run} (hih : RunOk E ν ih) (hj : JoinOk E ν ih) (hν : Bounded E ν) (hS : SpecOk E ν) {fn n : Nat} {T : Tr AV} {ops : Array Oper} {o : Oper} {r : List Oper} {k : List AItem} {ds : List ADef} {kd : CallKind} {ro : Option Nat}
    {fn' : Nat} {tmps : Array Value} {i : Nat} {is : List Nat} {K : List Item} {ds' : List Deferred} {kd' : CallKind} {ro' : Option Nat} (ho : ops[i]? = some o) (hw : Region.wanted o (yielded ops tmps) = true)
    (h : FRel φ ν ⟨fn, n, T, .inReg ops (o :: r) :: k, ds, .run, kd, ro⟩ ⟨fn', tmps, .inRegion ops (i :: is) :: K, ds', .run, kd', ro'⟩)
    {cs : List AFrame} {C : List Frame} (hcs : FsRel φ ν cs C) (hm : MRel E φ ν B m w) (hb : Bot b ⟨fn', tmps, .inRegion ops (i :: is) :: K, ds', .run, kd', ro'⟩ C) :
    Good E φ ν B b (lone ⟨fn', tmps, .inRegion ops (i :: is) :: K, ds', .run, kd', ro'⟩ (C ++ b.frames) w) w (stepOp E ih fn n T (.inReg ops (o :: r) :: k) ds kd ro cs m (aop E T m o.op)) := by
  have hbf : ∀ x, Bot b (Frame.finish ⟨fn', tmps, .inRegion ops (i :: is) :: K, ds', .run, kd', ro'⟩ x) C := fun x => hb.congr (by simp [Frame.finish]) (by simp [Frame.finish])
  have hres := aop_sound hν hS hm (a := ⟨tmps, ds'⟩) h.tmps o
  refine (Classical.em (ro' = none ∨ ∀ c, o.op ≠ .defer c)).symm.elim (fun hd => ?_) (fun hd => ?_)
  · -- a 'defer' in a round
    have hro : ∃ l, ro = some l := by
      have := h.ro
      simp only at this
      cases this with
      | none => exact absurd (.inl rfl) hd
      | some hl => exact ⟨_, rfl⟩
    obtain ⟨l, rfl⟩ := hro
    have : ∃ c, o.op = .defer c := by
      rcases Classical.em (∃ c, o.op = .defer c) with q | q
      · exact q
      · exact absurd (.inr fun c e => q ⟨c, e⟩) hd
    obtain ⟨c, hc⟩ := this
    rw [hc]
    have : aop E T m (.defer c) = opDefer E T c := rfl
    rw [this]
    unfold opDefer
    split
    · split <;> exact good_fail
    · exact good_fail
  generalize aop E T m o.op = res at hres
  -- behind a value
  have fin : ∀ {φ1 : Phi} {w1 : World} {m1 : AMem} {v : AV} {x : Value}, Ext φ φ1 → MRel E φ1 ν B m1 w1 → VRel φ1 ν v x →
      Good E φ1 ν B b (lone (Frame.finish ⟨fn', tmps, .inRegion ops (i :: is) :: K, ds', .run, kd', ro'⟩ x) (C ++ b.frames) w1) w1 (finishF fn n T (.inReg ops (o :: r) :: k) ds .run kd ro v fun fr => ih fr cs m1) := by
    intro φ1 w1 m1 v x hx hm1 hv
    exact finishF_sound (h.mono hx) hv (fun fr' h' => hih φ1 B b fr' cs m1 w1 _ C h' (hcs.mono hx) hm1 (hbf x))
  have finA : ∀ {v : AV} {x : Value} {w1 : World} {m1 : AMem}, After E φ ν B w v m1 x w1 → Steps E.P (lone ⟨fn', tmps, .inRegion ops (i :: is) :: K, ds', .run, kd', ro'⟩ (C ++ b.frames) w) (lone (Frame.finish ⟨fn', tmps, .inRegion ops (i :: is) :: K, ds', .run, kd', ro'⟩ x) (C ++ b.frames) w1) →
      Good E φ ν B b (lone ⟨fn', tmps, .inRegion ops (i :: is) :: K, ds', .run, kd', ro'⟩ (C ++ b.frames) w) w (finishF fn n T (.inReg ops (o :: r) :: k) ds .run kd ro v fun fr => ih fr cs m1) := by
    intro v x w1 m1 ⟨φ1, hx, hm1, hbl, hv⟩ hs
    exact Good.back hs hx hbl (fin hx hm1 hv)
  unfold stepOp
  cases res with
  | fail => exact good_fail
  | val v m1 =>
    simp only
    rcases hres with ⟨x, w1, hr, ha⟩ | ⟨f, cargs, hr, hc⟩
    · exact finA ha (Steps.one (step_op_value ho hw hd hr))
    · obtain ⟨e, w1, frx, ⟨x, he, ha⟩, hcm, hfn, hlv⟩ := hc (⟨fn', tmps, .inRegion ops (i :: is) :: K, ds', .run, kd', ro'⟩ :: (C ++ b.frames))
      subst he
      exact finA ha ((Steps.one (step_op_enter ho hw hd hr)).trans (Steps.trans hcm (Steps.one (step_leave_returned hlv))))
  | enter f args m1 =>
    obtain ⟨cargs, hr, hla, rfl⟩ := hres
    simp only
    split
    · exact Good.step (step_op_enter ho hw hd hr) (hj φ B b _ w f args cargs _ _ _ hm hla (fun φ1 w1 m2 v x hx hbl hm2 hv => fin hx hm2 hv))
    · unfold pushT
      split
      · rename_i fr hen
        exact Good.step (step_op_enter ho hw hd hr) (hih φ B b _ _ _ _ _ (_ :: C) (enterA_sound hla hen) (.cons h hcs) hm hb)
      · exact good_fail
  | round l args m1 =>
    obtain ⟨L, cargs, hL, hr, hla, rfl⟩ := hres
    simp only
    unfold pushT
    split
    · rename_i fr hen
      obtain ⟨f, tm, x, y, hy, hfr⟩ := roundFrame_sound hm hL hla hen
      exact Good.step (step_op_round ho hw hd (hr.trans hy)) (hih φ B b _ _ _ _ _ (_ :: C) hfr (.cons h hcs) hm hb)
    · exact good_fail
  | defer d =>
    obtain ⟨D, hr, hD⟩ := hres
    simp only
    have hro := h.ro
    simp only at hro
    cases hro with
    | some hl => exact good_fail
    | none =>
      refine Good.step (step_op_defer ho hw hd hr) ?_
      have h' : FRel φ ν ⟨fn, n, T, .inReg ops (o :: r) :: k, d :: ds, .run, kd, none⟩ ⟨fn', tmps, .inRegion ops (i :: is) :: K, D :: ds', .run, kd', none⟩ := ⟨h.fn, h.tmps, h.todo, .cons hD h.defers, h.mode, h.kind, .none⟩
      exact finishF_sound h' undef_rel (fun fr' h2 => hih φ B b fr' cs m w _ C h2 hcs hm (hb.congr (by simp [Frame.finish]) (by simp [Frame.finish])))
  | recover =>
    have hr : (execOp (Act.eval ⟨tmps, ds'⟩) o).run E.P w = .ok .recover w := hres
    simp only
    have hro := h.ro
    have hkd := h.kind
    simp only at hro hkd
    subst hkd
    cases hro with
    | some hl => exact good_fail
    | none =>
      cases kd with
      | normal => exact Good.step (step_op_recover ho hw hr (.inr ⟨by simp [tryRecover], rfl, rfl⟩)) (fin (Ext.refl φ) hm .nilIface)
      | deferred =>
        cases hcs with
        | nil => exact good_fail
        | @cons c Fc cs C hc hcs =>
          obtain ⟨c1, c2, c3, c4, c5, c6, c7, c8⟩ := c
          obtain ⟨d1, d2, d3, d4, d5, d6, d7⟩ := Fc
          obtain ⟨g1, g2, g3, g4, g5, g6, g7⟩ := hc
          simp only at g1 g2 g3 g4 g5 g6 g7
          have other : (tryRecover ⟨fn', tmps, .inRegion ops (i :: is) :: K, ds', .run, .deferred, none⟩ (⟨d1, d2, d3, d4, d5, d6, d7⟩ :: C ++ b.frames) = none) →
              Good E φ ν B b (lone ⟨fn', tmps, .inRegion ops (i :: is) :: K, ds', .run, .deferred, none⟩ (⟨d1, d2, d3, d4, d5, d6, d7⟩ :: C ++ b.frames) w) w
                (finishF fn n T (.inReg ops (o :: r) :: k) ds .run .deferred none .nilIface fun fr => ih fr (⟨c1, c2, c3, c4, c5, c6, c7, c8⟩ :: cs) m) := by
            intro ht
            refine Good.step (step_op_recover ho hw hr (.inr ⟨ht, rfl, rfl⟩)) ?_
            exact finishF_sound h .nilIface (fun fr' h' => hih φ B b fr' _ m w _ (_ :: C) h' (.cons ⟨g1, g2, g3, g4, g5, g6, g7⟩ hcs) hm (hbf .nilIface))
          cases g5 with
          | run => exact other rfl
          | returning => exact other rfl
          | panicking hch =>
            cases hch with
            | nil => exact other rfl
            | @cons v rr x l L hv hl =>
              cases rr with
              | true => exact other rfl
              | false =>
                have hc' : FRel φ ν (setMode ⟨c1, c2, c3, c4, c5, .panicking ((v, false) :: l), c7, c8⟩ (.panicking ((v, true) :: l))) ⟨d1, d2, d3, d4, .panicking ({ v := x, recovered := true } :: L), d6, d7⟩ :=
                  ⟨g1, g2, g3, g4, .panicking (.cons hv hl), g6, g7⟩
                refine Good.step (step_op_recover ho hw hr (.inl rfl)) ?_
                exact finishF_sound h hv (fun fr' h' => hih φ B b fr' _ m w _ (_ :: C) h' (.cons hc' hcs) hm (Bot.tail (hbf x) |>.congr (F' := ⟨d1, d2, d3, d4, .panicking ({ v := x, recovered := true } :: L), d6, d7⟩) rfl rfl))
      | wrapped => exact good_fail
      | report => exact good_fail
      | early => exact good_fail
  | panic v m1 =>
    obtain ⟨x, hr, hv, rfl⟩ := hres
    simp only
    exact Good.step (step_op_panic ho hw hd hr) (hih φ B b _ cs _ w _ C ⟨h.fn, h.tmps, h.todo, h.defers, .panicking (.cons hv .nil), h.kind, h.ro⟩ hcs hm (hb.congr rfl rfl))
  | choose alts =>
    obtain ⟨j, v, m1, x, w1, hj', hr, ha⟩ := hres
    simp only
    refine Good.pick (List.mem_map.2 ⟨(v, m1), List.mem_of_getElem? hj', rfl⟩) ?_
    exact finA ha (Steps.one (step_op_value ho hw hd (.inl hr)))
end
end Go.Ev
namespace Go.Ev
open Go Go.RowKit
section
variable {E : Env} {φ φ' : Phi} {ν : Nat → Int} {B : Nat} {b : Base} {w w' : World} {M M' : Machine} {t : Tree} {m m' : AMem} {P : Program}
/-- What a region that draws its order is to be. -/
def DrawOk (E : Env) (ν : Nat → Int) (ih : Run) : Prop :=
  ∀ φ B b m w fn n T tmps ds' kd ro' (K : List Item) (X : List Frame) id ops T1 m1 t, MRel E φ ν B m w → TRel φ ν n T tmps → drawA E ih ops n T m = some (T1, m1) →
    (∀ φ' w' tmps', Ext φ φ' → Below B w w' → MRel E φ' ν B m1 w' → TRel φ' ν n T1 tmps' → Good E φ' ν B b (lone ⟨fn, tmps', K, ds', .run, kd, ro'⟩ X w') w' t) →
    Good E φ ν B b (lone ⟨fn, tmps, .code (.region id ops true) :: K, ds', .run, kd, ro'⟩ X w) w t
theorem rrel_all (ops : Array Oper) : RRel ops ops.toList (List.range ops.size) := by
  have : ∀ (n k : Nat), k + n = ops.size → RRel ops (ops.toList.drop k) (List.range' k n) := by
    intro n
    induction n with
    | zero =>
      intro k hk
      rw [List.drop_eq_nil_of_le (by simp; omega)]
      exact .nil
    | succ n ih =>
      intro k hk
      have hlt : k < ops.toList.length := by simp; omega
      rw [List.drop_eq_getElem_cons hlt, List.range'_succ]
      exact .cons (by simp) (ih (k + 1) (by omega))
  have h := this ops.size 0 (by omega)
  rw [List.drop_zero, ← List.range_eq_range'] at h
  exact h
theorem stepReg_sound {ih : Run} (hih : RunOk E ν ih) (hj : JoinOk E ν ih) (hν : Bounded E ν) (hS : SpecOk E ν) {fn n : Nat} {T : Tr AV} {ops : Array Oper} {rest : List Oper} {k : List AItem} {ds : List ADef} {kd : CallKind} {ro : Option Nat}
    {fn' : Nat} {tmps : Array Value} {is : List Nat} {K : List Item} {ds' : List Deferred} {kd' : CallKind} {ro' : Option Nat}
    (h : FRel φ ν ⟨fn, n, T, .inReg ops rest :: k, ds, .run, kd, ro⟩ ⟨fn', tmps, .inRegion ops is :: K, ds', .run, kd', ro'⟩)
    {cs : List AFrame} {C : List Frame} (hcs : FsRel φ ν cs C) (hm : MRel E φ ν B m w) (hb : Bot b ⟨fn', tmps, .inRegion ops is :: K, ds', .run, kd', ro'⟩ C) :
    Good E φ ν B b (lone ⟨fn', tmps, .inRegion ops is :: K, ds', .run, kd', ro'⟩ (C ++ b.frames) w) w (stepReg E ih fn n T ops rest k ds kd ro cs m) := by
  have htd := h.todo
  simp only at htd
  cases htd with
  | cons hr hk =>
    cases hr with
    | inReg hr =>
      cases hr with
      | nil => exact Good.step step_reg_end (hih φ B b _ cs m w _ C ⟨h.fn, h.tmps, hk, h.defers, .run, h.kind, h.ro⟩ hcs hm (hb.congr rfl rfl))
      | @cons o i os is ho hos =>
        unfold stepReg
        simp only
        split
        · rename_i hw
          exact stepOp_sound hih hj hν hS ho (wantedA_sound h.tmps hw) h hcs hm hb
        · rename_i hw
          refine Good.step (step_op_skip' ho (wantedA_sound h.tmps hw)) ?_
          exact finishF_sound h undef_rel (fun fr' h' => hih φ B b fr' cs m w _ C h' hcs hm (hb.congr (by simp [Frame.finish]) (by simp [Frame.finish])))
        · exact good_fail
theorem stepF_sound {ih : Run} (hih : RunOk E ν ih) (hj : JoinOk E ν ih) (hdr : DrawOk E ν ih) (hν : Bounded E ν) (hS : SpecOk E ν) {fr : AFrame} {F : Frame} (h : FRel φ ν fr F)
    {cs : List AFrame} {C : List Frame} (hcs : FsRel φ ν cs C) (hm : MRel E φ ν B m w) (hb : Bot b F C) :
    Good E φ ν B b (lone F (C ++ b.frames) w) w (step E ih fr cs m) := by
  obtain ⟨fn, n, T, todo, ds, md, kd, ro⟩ := fr
  have hF := h
  obtain ⟨fn', tmps, todo', ds', md', kd', ro'⟩ := F
  obtain ⟨h1, h2, h3, h4, h5, h6, h7⟩ := h
  simp only at h1 h2 h3 h4 h5 h6 h7
  unfold step stepF
  simp only
  cases h5 with
  | returning =>
    cases h4 with
    | nil => exact returnF_sound hih hF hcs hm hb
    | cons hd hds => exact deferF_sound hih hS hF (by simp) hcs hm hb
  | panicking hch =>
    cases h4 with
    | nil => exact panicF_sound hih hF hcs hm hb
    | cons hd hds => exact deferF_sound hih hS hF (by simp) hcs hm hb
  | run =>
    cases h3 with
    | nil => exact leaveF_sound hih hF .nil hcs hm hb
    | @cons i c is cs' hi his =>
      have go : ∀ {k' : List AItem} {K' : List Item}, IsRel φ k' K' → Go.step E.P (lone ⟨fn', tmps, c :: cs', ds', .run, kd', ro'⟩ (C ++ b.frames) w) = .next (lone ⟨fn', tmps, K', ds', .run, kd', ro'⟩ (C ++ b.frames) w) →
          Good E φ ν B b (lone ⟨fn', tmps, c :: cs', ds', .run, kd', ro'⟩ (C ++ b.frames) w) w (ih ⟨fn, n, T, k', ds, .run, kd, ro⟩ cs m) :=
        fun hk' hs => Good.step hs (hih φ B b _ cs m w _ C ⟨h1, h2, hk', h4, .run, h6, h7⟩ hcs hm (hb.congr rfl rfl))
      simp only
      cases hi with
      | code c =>
        show Good E φ ν B b _ w (stepCode E ih fn n T c is ds kd ro cs m)
        cases hp : plainC c with
        | true => exact fromC_sound hih hp hF hcs hm hb
        | false =>
          cases c <;> first
            | (cases hp; done)
            | skip
          · rename_i id ops dr
            cases dr with
            | false => exact go (.cons (.inReg (rrel_all ops)) his) (step_lone_go (by simp [stepG, stepG.exec]))
            | true =>
              simp only [stepCode]
              split
              · rename_i T1 m1 hd
                exact hdr φ B b m w fn' n T tmps ds' kd' ro' cs' (C ++ b.frames) id ops T1 m1 _ hm h2 hd (fun φ1 w1 tmps1 hx hbl hm1 hT1 =>
                  hih φ1 B b _ cs m1 w1 _ C ⟨h1, hT1, his.mono hx, h4.mono hx, .run, h6, h7.mono hx⟩ (hcs.mono hx) hm1 (hb.congr rfl rfl))
              · exact good_fail
          · exact stepRF_sound hih hS hF hcs hm hb
      | inBlock id => exact go his (step_lone_go (by simp [stepG, stepG.exec]))
      | inScope c => exact go his (step_lone_go (by simp [stepG, stepG.exec]))
      | inLoop c => exact go (.cons (.code _) (.cons (.inLoop _) his)) (step_lone_go (by simp [stepG, stepG.exec]))
      | inReg hr => exact stepReg_sound hih hj hν hS hF hcs hm hb
      | inRF hl => exact good_fail
      | endRF hl => exact endRF_sound hih hl hF hcs hm hb
      | beginRound => exact beginRound_sound hih hF hcs hm hb
end
end Go.Ev
namespace Go.Ev
open Go Go.RowKit
section
variable {E : Env} {φ φ' : Phi} {ν : Nat → Int} {B : Nat} {b : Base} {w w' : World} {m m' : AMem}
theorem run_ok (hν : Bounded E ν) (hS : SpecOk E ν) (hJ : ∀ n, RunOk E ν (run E n) → JoinOk E ν (run E n)) (hD : ∀ n, RunOk E ν (run E n) → DrawOk E ν (run E n)) : ∀ n, RunOk E ν (run E n) := by
  intro n
  induction n with
  | zero => intro φ B b fr cs m w F C _ _ _ _; exact good_fail
  | succ n ih => intro φ B b fr cs m w F C h hcs hm hb; exact stepF_sound ih (hJ n ih) (hD n ih) hν hS h hcs hm hb
theorem callA_calls {n : Nat} (hrun : RunOk E ν (run E n)) {f : Nat} {args : List AV} {cargs : List Value} (ha : LRel φ ν args cargs) (hm : MRel E φ ν B m w) {v : AV} (h : callA E n f args m = .leaf (.ret v m')) :
    Calls E.P f cargs.toArray w fun e w' => ∃ x φ', e = .returned x ∧ Ext φ φ' ∧ MRel E φ' ν B m' w' ∧ Below B w w' ∧ VRel φ' ν v x := by
  intro cs
  unfold callA at h
  split at h
  · rename_i fr hen
    have hF := enterA_sound ha hen
    have := hrun φ B (.leave f cs) fr [] m w _ [] hF .nil hm ⟨rfl, rfl⟩
    rw [h] at this
    obtain ⟨l, hl, he⟩ := this (.leaf _)
    cases hl
    obtain ⟨w', φ', x, q1, q2, q3, q4, fr', q5, q6, q7⟩ := he
    exact ⟨.returned x, w', fr', ⟨x, φ', rfl, q1, q2, q3, q4⟩, q5, q6, q7⟩
  · cases h
end
end Go.Ev
