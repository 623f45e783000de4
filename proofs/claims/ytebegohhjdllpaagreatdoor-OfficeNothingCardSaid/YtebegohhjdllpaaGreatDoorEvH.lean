/-
  Calls that are run to their end keep memory.
-/
import Derived.Test.YtebegohhjdllpaaGreatDoorEvG
set_option linter.unusedVariables false
set_option linter.unusedSimpArgs false
namespace Go.Ev
open Go
structure Kept (m m' : AMem) : Prop where
  wm : m'.wm = m.wm
  next : m.next ≤ m'.next
  bad : m'.bad = false → m.bad = false
  same : m'.bad = false → ∀ id, id < m.wm → id < m.next → m'.get id = m.get id
theorem Kept.refl (m : AMem) : Kept m m := ⟨rfl, Nat.le_refl _, id, fun _ _ _ _ => rfl⟩
theorem Kept.trans {a b c : AMem} (h : Kept a b) (k : Kept b c) : Kept a c :=
  ⟨k.wm.trans h.wm, Nat.le_trans h.next k.next, fun e => h.bad (k.bad e), fun e i hi hn => (k.same e i (by rw [h.wm]; exact hi) (Nat.lt_of_lt_of_le hn h.next)).trans (h.same (k.bad e) i hi hn)⟩
theorem Kept.set (m : AMem) (id : Nat) (x : Option ABlk) : Kept m (m.set id x) := by
  refine ⟨?_, ?_, ?_, ?_⟩
  · obtain ⟨b, nx, wm, bad⟩ := m; unfold AMem.set; simp only; cases Nat.blt id wm <;> rfl
  · rw [AMem.next_set]; exact Nat.le_refl _
  · obtain ⟨b, nx, wm, bad⟩ := m
    unfold AMem.set
    simp only
    cases Nat.blt id wm
    · exact fun h => h
    · intro h; cases h
  · intro hb j hj _
    rw [AMem.get_set]
    by_cases e : id = j
    · subst e
      obtain ⟨b, nx, wm, bad⟩ := m
      unfold AMem.set at hb
      simp only at hb hj
      have : Nat.blt id wm = true := by rw [Nat.blt_eq]; exact hj
      rw [this] at hb
      cases hb
    · rw [if_neg e]
theorem Kept.push (m : AMem) (x : ABlk) : Kept m (m.push x) := by
  refine ⟨rfl, by rw [AMem.next_push]; omega, id, ?_⟩
  intro _ j _ hn
  rw [AMem.get_push]
  rw [if_neg (by omega)]
def KRes (m : AMem) : ARes → Prop
  | .val _ m' | .enter _ _ m' | .round _ _ m' | .panic _ m' => Kept m m'
  | .choose alts => ∀ p ∈ alts, Kept m p.2
  | _ => True
def Leaf.mem : Leaf → AMem
  | .ret _ m => m
  | .pan _ m => m
def KTree (m : AMem) (t : Tree) : Prop := ∀ l, LeafOf t l → Kept m l.mem
def RunK (ih : Run) : Prop := ∀ fr cs m, KTree m (ih fr cs m)
def SpecK (E : Env) : Prop := ∀ f h, E.spec f = some h → ∀ args m v m', h args m = some (v, m') → Kept m m'
section
variable {E : Env} {m m' : AMem} {t : Tree}
theorem k_fail : KTree m .fail := by intro l h; cases h
theorem k_leaf {l : Leaf} (h : Kept m l.mem) : KTree m (.leaf l) := by intro l' h'; cases h'; exact h
theorem KTree.back (h : Kept m m') (k : KTree m' t) : KTree m t := fun l hl => h.trans (k l hl)
theorem KRes.back {r : ARes} (h : Kept m m') (k : KRes m' r) : KRes m r := by
  cases r <;> first
    | exact h.trans k
    | exact fun p hp => h.trans (k p hp)
    | trivial
theorem storeN_k {id off : Nat} {vs : List AV} (h : storeN m id off vs = some m') : Kept m m' := by
  unfold storeN at h
  repeat' (split at h)
  all_goals first
    | (simp only [Option.some.injEq] at h; subst h; exact Kept.set _ _ _)
    | cases h
theorem new_k (b : ABlk) {f : Nat → AMem → ARes} (h : KRes (m.push b) (f m.next (m.push b))) : KRes m (m.new b f) := by
  rw [AMem.new_eq]; exact KRes.back (Kept.push m b) h
theorem opStore_k (t : Nat) (a v : AV) : KRes m (opStore E t a v m) := by
  unfold opStore
  repeat' split
  all_goals first
    | trivial
    | exact storeN_k ‹_›
theorem opMapUpdate_k (t : Nat) (x k v : AV) : KRes m (opMapUpdate E t x k v m) := by
  unfold opMapUpdate
  repeat' split
  all_goals first
    | trivial
    | exact Kept.set _ _ _
theorem opRange_k (t : Nat) (x : AV) : KRes m (opRange E t x m) := by
  unfold opRange
  repeat' split
  all_goals first
    | trivial
    | exact new_k _ (Kept.refl _)
theorem nextAlts_k (r id since : Nat) (seen : List Nat) (clock : Nat) (l : List AEnt) : ∀ p ∈ nextAlts r id since seen clock m l, Kept m p.2 := by
  induction l with
  | nil => intro p hp; cases hp
  | cons e l ih =>
    intro p hp
    unfold nextAlts at hp
    cases hp with
    | head => exact Kept.set _ _ _
    | tail _ hp => exact ih p hp
theorem nextAltsW_k (r id since clock : Nat) (must gone : List Nat) (k : Nat) (l : List AEnt) : ∀ p ∈ nextAltsW r id since clock must gone k m l, Kept m p.2 := by
  induction l with
  | nil => intro p hp; cases hp
  | cons e l ih =>
    intro p hp
    unfold nextAltsW at hp
    split at hp
    · exact ih p hp
    · cases hp with
      | head => exact Kept.set _ _ _
      | tail _ hp => exact ih p hp
theorem opNext_k (it : AV) (s : Bool) : KRes m (opNext it s m) := by
  unfold opNext
  repeat' split
  all_goals first
    | trivial
    | exact Kept.refl _
    | exact Kept.set _ _ _
    | exact nextAlts_k _ _ _ _ _ _
    | exact nextAltsW_k _ _ _ _ _ _ _ _
theorem growNew_k (elem size len : Nat) (cs : List AV) : KRes m (growNew elem size len cs m) := new_k _ (Kept.refl _)
theorem bAppend_k (t : Nat) (z : Bool) (s x : AV) : KRes m (bAppend E t z s x m) := by
  unfold bAppend
  repeat' split
  all_goals first
    | trivial
    | exact Kept.refl _
    | exact growNew_k _ _ _ _
    | exact storeN_k ‹_›
    | exact (Kept.set m _ none).trans (Kept.push _ (.cells _ _ _ _ _ _))
theorem bCopy_k (t : Nat) (d s : AV) : KRes m (bCopy E t d s m) := by
  unfold bCopy
  repeat' split
  all_goals first
    | trivial
    | exact Kept.refl _
    | skip
  rw [force_eq]
  split
  · exact storeN_k ‹_›
  · trivial
theorem bUnsafeString_k (t : Nat) (p n : AV) : KRes m (bUnsafeString E t p n m) := by
  unfold bUnsafeString
  repeat' split
  all_goals first
    | trivial
    | exact Kept.refl _
    | exact Kept.set _ _ _
theorem opBuiltin_k (b : Builtin) (ts : Array TypeId) (args : List AV) : KRes m (opBuiltin E b ts args m) := by
  unfold opBuiltin
  repeat' split
  all_goals first
    | trivial
    | exact bAppend_k _ _ _ _
    | exact bCopy_k _ _ _
    | exact bUnsafeString_k _ _ _
theorem enterFunc_k (f : Nat) (args : List AV) : KRes m (enterFunc E f args m) := by
  unfold enterFunc
  repeat' split
  all_goals first
    | trivial
    | exact Kept.refl _
theorem opCallFunc_k (hS : SpecK E) (f : Nat) (args : List AV) : KRes m (opCallFunc E f args m) := by
  unfold opCallFunc
  repeat' split
  all_goals first
    | exact enterFunc_k _ _
    | exact hS _ _ ‹_› _ _ _ _ ‹_›
theorem opInvoke_k (hS : SpecK E) (f : AV) (args : List AV) : KRes m (opInvoke E f args m) := by
  unfold opInvoke
  repeat' split
  all_goals first
    | trivial
    | exact Kept.refl _
    | exact opCallFunc_k hS _ _
theorem opCall_k (hS : SpecK E) (T : Tr AV) (c : Call) : KRes m (opCall E T c m) := by
  unfold opCall
  repeat' split
  all_goals first
    | trivial
    | exact opBuiltin_k _ _ _
    | exact opCallFunc_k hS _ _
    | exact opInvoke_k hS _ _
theorem opDefer_k (T : Tr AV) (c : Call) : KRes m (opDefer E T c) := by
  unfold opDefer
  repeat' split
  all_goals trivial
theorem opPanic_k (x : AV) : KRes m (opPanic x m) := by
  unfold opPanic
  repeat' split
  all_goals first
    | trivial
    | exact Kept.refl _
theorem xSplit_k (op : BinOp) (x y : AV) : KRes m (xSplit op x y m) := by
  unfold xSplit
  split
  · split
    · intro p hp
      cases hp with
      | head => exact Kept.set _ _ _
      | tail _ hp =>
        cases hp with
        | head => exact Kept.refl _
        | tail _ hp => cases hp
    · trivial
  · trivial
theorem eop_k (hS : SpecK E) (T : Tr AV) (o : Op) : KRes m (eop E T m o) := by
  unfold eop
  repeat' split
  all_goals first
    | trivial
    | exact opStore_k _ _ _
    | exact opMapUpdate_k _ _ _ _
    | exact opRange_k _ _
    | exact opNext_k _ _
    | exact opCall_k hS _ _
    | exact opDefer_k _ _
    | exact opPanic_k _
    | exact xSplit_k _ _ _
theorem aop_k (hS : SpecK E) (T : Tr AV) (o : Op) : KRes m (aop E T m o) := by
  unfold aop
  repeat' split
  all_goals first
    | exact Kept.refl _
    | exact new_k _ (Kept.refl _)
    | exact eop_k hS _ _
end
end Go.Ev
namespace Go.Ev
open Go
section
variable {E : Env} {m m' : AMem} {t : Tree} {ih : Run}
theorem putF_k {d : Option Nat} {v : AV} {fn n : Nat} {T : Tr AV} {todo : List AItem} {ds : List ADef} {md : AMode} {kd : CallKind} {ro : Option Nat} {k : AFrame → Tree} (h : ∀ fr, KTree m (k fr)) : KTree m (putF d v fn n T todo ds md kd ro k) := by
  unfold putF
  repeat' split
  all_goals first
    | exact k_fail
    | exact h _
theorem finishF_k {fn n : Nat} {T : Tr AV} {todo : List AItem} {ds : List ADef} {md : AMode} {kd : CallKind} {ro : Option Nat} {v : AV} {k : AFrame → Tree} (h : ∀ fr, KTree m (k fr)) : KTree m (finishF fn n T todo ds md kd ro v k) := by
  unfold finishF
  repeat' split
  all_goals first
    | exact k_fail
    | exact h _
    | exact putF_k h
theorem finishA_k {fr : AFrame} {v : AV} {k : AFrame → Tree} (h : ∀ fr, KTree m (k fr)) : KTree m (finishA fr v k) := by
  unfold finishA; exact finishF_k h
theorem pushT_k (hi : RunK ih) {fr : Option AFrame} {cs : List AFrame} : KTree m (pushT ih fr cs m) := by
  unfold pushT
  split
  · exact hi _ _ _
  · exact k_fail
theorem doReturnA_k (hi : RunK ih) {kd : CallKind} {cs : List AFrame} {v : AV} : KTree m (doReturnA ih kd cs v m) := by
  unfold doReturnA
  repeat' split
  all_goals first
    | exact k_fail
    | exact k_leaf (Kept.refl _)
    | exact hi _ _ _
    | exact finishA_k (fun fr => hi _ _ _)
theorem leaveF_k (hi : RunK ih) {fn n : Nat} {T : Tr AV} {todo : List AItem} {ds : List ADef} {kd : CallKind} {ro : Option Nat} {cs : List AFrame} {jump : Option Code} : KTree m (leaveF ih fn n T todo ds kd ro cs m jump) := by
  unfold leaveF
  repeat' split
  all_goals first
    | exact k_fail
    | exact hi _ _ _
    | exact KTree.back (Kept.set _ _ _) (doReturnA_k hi)
/-! calls that are run to their end -/
theorem unpackA_k {r : JRes} {nx : Nat} (hn : m.next ≤ nx) {k : AV → AMem → Tree} (h : ∀ v m', Kept m m' → KTree m (k v m')) : KTree m (unpackA r nx m k) := by
  obtain ⟨blk, next, wm, bad⟩ := m
  unfold unpackA
  simp only [force_eq]
  have h0 : Kept ⟨blk, next, wm, bad⟩ ⟨blk, nx, wm, bad⟩ := ⟨rfl, hn, fun h => h, fun _ _ _ _ => rfl⟩
  cases r with
  | plain v => exact h _ _ h0
  | row cs ty ext lo hi off len cap =>
    simp only [AMem.new_eq]
    exact h _ _ (h0.trans (Kept.push _ _))
theorem maxN_le (a b : Nat) : a ≤ maxN a b ∧ b ≤ maxN a b := by
  unfold maxN
  split
  · rename_i h; have := nat_ble h; omega
  · rename_i h; have := nat_ble_false h; omega
theorem packA_next {wm : Nat} {v : AV} {r : JRes} {nx : Nat} (h : packA wm v m = some (r, nx)) : nx = m.next := by
  unfold packA at h
  repeat' (split at h)
  all_goals first
    | (cases h; done)
    | (simp only [Option.some.injEq, Prod.mk.injEq] at h; exact h.2.symm)
theorem eqPlain_eq {a b : AV} (h : eqPlain a b = true) : a = b := by
  unfold eqPlain at h
  split at h <;> first | rfl | exact eqLeaf_eq h
theorem eqCap_eq {a b : ACap} (h : eqCap a b = true) : a = b := by
  unfold eqCap at h
  split at h
  · rw [nat_beq h]
  · rw [nat_beq h]
  · cases h
theorem eqJ_eq {a b : JRes} (h : eqJ a b = true) : a = b := by
  unfold eqJ at h
  split at h
  · rw [eqPlain_eq h]
  · simp only [Bool.and_eq_true] at h
    obtain ⟨⟨⟨⟨⟨⟨⟨h1, h2⟩, h3⟩, h4⟩, h5⟩, h6⟩, h7⟩, h8⟩ := h
    rw [eqAll_eq h1, nat_beq h2, eq_of_beq h3, nat_beq h4, nat_beq h5, nat_beq h6, nat_beq h7, eqCap_eq h8]
  · cases h
/-- What joined ways have in common. -/
def Joined (wm : Nat) (r : JRes) (nx : Nat) (t : Tree) : Prop :=
  Full t ∧ ∀ l, LeafOf t l → ∃ v m' nx', l = .ret v m' ∧ packA wm v m' = some (r, nx') ∧ nx' ≤ nx
mutual
theorem joinT_sound (wm : Nat) : ∀ (t : Tree) {r : JRes} {nx : Nat}, joinT wm t = some (r, nx) → Joined wm r nx t
  | .fail, r, nx, h => by cases h
  | .leaf (.ret v m), r, nx, h => ⟨.leaf _, fun l hl => by cases hl; exact ⟨v, m, nx, rfl, h, Nat.le_refl _⟩⟩
  | .leaf (.pan c m), r, nx, h => by cases h
  | .node [], r, nx, h => by cases h
  | .node (t :: ts), r, nx, h => by
    unfold joinT at h
    split at h
    · rename_i r0 nx0 h0
      obtain ⟨f1, q1⟩ := joinT_sound wm t h0
      obtain ⟨rfl, hle, f2, q2⟩ := joinTs_sound wm r0 nx0 ts h
      refine ⟨.node fun t' ht' => ?_, fun l hl => ?_⟩
      · cases ht' with
        | head => exact f1
        | tail _ ht' => exact f2 _ ht'
      · cases hl with
        | node ht hl =>
          cases ht with
          | head => obtain ⟨v, m', nx', e1, e2, e3⟩ := q1 l hl; exact ⟨v, m', nx', e1, e2, Nat.le_trans e3 hle⟩
          | tail _ ht => exact q2 _ ht l hl
    · cases h
theorem joinTs_sound (wm : Nat) : ∀ (r0 : JRes) (nx0 : Nat) (ts : List Tree) {r : JRes} {nx : Nat}, joinTs wm r0 nx0 ts = some (r, nx) →
    r = r0 ∧ nx0 ≤ nx ∧ (∀ t ∈ ts, Full t) ∧ ∀ t ∈ ts, ∀ l, LeafOf t l → ∃ v m' nx', l = .ret v m' ∧ packA wm v m' = some (r, nx') ∧ nx' ≤ nx
  | r0, nx0, [], r, nx, h => by
    unfold joinTs at h
    simp only [Option.some.injEq, Prod.mk.injEq] at h
    obtain ⟨rfl, rfl⟩ := h
    exact ⟨rfl, Nat.le_refl _, fun t ht => (by cases ht), fun t ht => (by cases ht)⟩
  | r0, nx0, t :: ts, r, nx, h => by
    unfold joinTs at h
    split at h
    · rename_i r1 nx1 h1
      split at h
      · rename_i he
        obtain ⟨f1, q1⟩ := joinT_sound wm t h1
        obtain ⟨rfl, hle, f2, q2⟩ := joinTs_sound wm r0 (maxN nx0 nx1) ts h
        have he := eqJ_eq he
        subst he
        have hm := maxN_le nx0 nx1
        refine ⟨rfl, by omega, fun t' ht' => ?_, fun t' ht' l hl => ?_⟩
        · cases ht' with
          | head => exact f1
          | tail _ ht' => exact f2 _ ht'
        · cases ht' with
          | head => obtain ⟨v, m', nx', e1, e2, e3⟩ := q1 l hl; exact ⟨v, m', nx', e1, e2, by omega⟩
          | tail _ ht' => exact q2 _ ht' l hl
      · cases h
    · cases h
end
/-- The call's memory, as it begins. -/
noncomputable def AMem.mark (m : AMem) : AMem := { m with wm := m.next, bad := false }
theorem joinCall_k {f : Nat} {args : List AV} (hi : RunK ih) {k : AV → AMem → Tree} (h : ∀ v m', Kept m m' → KTree m (k v m')) (hl : ∀ {t : Tree} {r nx}, joinT m.next t = some (r, nx) → (∃ l, LeafOf t l)) : KTree m (joinCall E ih f args m k) := by
  unfold joinCall
  repeat' split
  · rename_i fr hen r nx hj
    obtain ⟨l, hl⟩ := hl hj
    obtain ⟨_, q⟩ := joinT_sound _ _ hj
    obtain ⟨v, m', nx', rfl, q2, q3⟩ := q l hl
    have hk := hi _ _ _ _ hl
    have := packA_next q2
    have hn := hk.next
    refine unpackA_k ?_ h
    subst this
    exact Nat.le_trans hn q3
  · exact k_fail
  · exact k_fail
mutual
theorem joinT_leaf (wm : Nat) : ∀ (t : Tree) {r : JRes} {nx : Nat}, joinT wm t = some (r, nx) → ∃ l, LeafOf t l
  | .fail, r, nx, h => by cases h
  | .leaf l, r, nx, h => ⟨l, .leaf l⟩
  | .node [], r, nx, h => by cases h
  | .node (t :: ts), r, nx, h => by
    unfold joinT at h
    split at h
    · rename_i r0 nx0 h0
      obtain ⟨l, hl⟩ := joinT_leaf wm t h0
      exact ⟨l, .node (.head _) hl⟩
    · cases h
end
theorem joinCall_k' {f : Nat} {args : List AV} (hi : RunK ih) {k : AV → AMem → Tree} (h : ∀ v m', Kept m m' → KTree m (k v m')) : KTree m (joinCall E ih f args m k) :=
  joinCall_k hi h (fun hj => joinT_leaf _ _ hj)
end
end Go.Ev
namespace Go.Ev
open Go
section
variable {E : Env} {m m' : AMem} {t : Tree} {ih : Run}
theorem endOf_k {t : Tree} {v : AV} (h : KTree m t) (he : endOf t = some (v, m')) : Kept m m' := by
  unfold endOf at he
  split at he
  · simp only [Option.some.injEq, Prod.mk.injEq] at he
    obtain ⟨_, rfl⟩ := he
    exact h _ (.leaf _)
  · cases he
theorem callEnd_k (hi : RunK ih) {r : ARes} (hr : KRes m r) {v : AV} (h : callEnd E ih r = some (v, m')) : Kept m m' := by
  unfold callEnd at h
  split at h
  · simp only [Option.some.injEq, Prod.mk.injEq] at h; obtain ⟨_, rfl⟩ := h; exact hr
  · split at h
    · exact Kept.trans hr (endOf_k (joinCall_k' (k := fun v m => .leaf (.ret v m)) hi (fun v m1 hk => k_leaf (l := .ret v m1) hk)) h)
    · split at h
      · exact Kept.trans hr (endOf_k (hi _ _ _) h)
      · cases h
  · split at h
    · exact Kept.trans hr (endOf_k (hi _ _ _) h)
    · cases h
  · cases h
theorem oneD_k (hS : SpecK E) (hi : RunK ih) {ops : Array Oper} {n i : Nat} {s s' : DSt} (h : oneD E ih ops n i s = some s') : Kept s.m s'.m := by
  unfold oneD at h
  split at h
  · cases h
  split at h
  · cases h
  · split at h
    · simp only [Option.some.injEq] at h; subst h; exact Kept.refl _
    · cases h
  split at h
  · split at h
    · simp only [Option.some.injEq] at h; subst h; exact Kept.refl _
    · cases h
  split at h
  · split at h
    · simp only [Option.some.injEq] at h; subst h; exact Kept.refl _
    · cases h
  split at h
  · rw [AMem.new_eq] at h
    split at h
    · simp only [Option.some.injEq] at h; subst h; exact Kept.push _ _
    · cases h
  split at h
  · rename_i v m1 hc
    split at h
    · simp only [Option.some.injEq] at h; subst h; exact callEnd_k hi (eop_k hS _ _) hc
    · cases h
  · cases h
theorem walkD_k (hS : SpecK E) (hi : RunK ih) {ops : Array Oper} {n : Nat} : ∀ {l : List Nat} {s s' : DSt}, walkD E ih ops n l s = some s' → Kept s.m s'.m := by
  intro l
  induction l with
  | nil => intro s s' h; unfold walkD at h; simp only [Option.some.injEq] at h; subst h; exact Kept.refl _
  | cons i l ih' =>
    intro s s' h
    unfold walkD at h
    split at h
    · rename_i s1 h1; exact (oneD_k hS hi h1).trans (ih' h)
    · cases h
theorem drawA_k (hS : SpecK E) (hi : RunK ih) {ops : Array Oper} {n : Nat} {T T1 : Tr AV} {m1 : AMem} (h : drawA E ih ops n T m = some (T1, m1)) : Kept m m1 := by
  unfold drawA at h
  split at h
  · cases h
  split at h
  · cases h
  rename_i s hs
  split at h
  · simp only [Option.some.injEq, Prod.mk.injEq] at h
    obtain ⟨_, rfl⟩ := h
    exact walkD_k hS hi hs
  · cases h
theorem stepOp_k (hi : RunK ih) {fn n : Nat} {T : Tr AV} {todo : List AItem} {ds : List ADef} {kd : CallKind} {ro : Option Nat} {cs : List AFrame} {r : ARes} (hr : KRes m r) : KTree m (stepOp E ih fn n T todo ds kd ro cs m r) := by
  unfold stepOp
  cases r with
  | val v m1 => exact KTree.back hr (finishF_k fun fr => hi _ _ _)
  | enter f args m1 =>
    simp only
    split
    · exact KTree.back hr (joinCall_k' hi fun v m2 hk => KTree.back hk (finishF_k fun fr => hi _ _ _))
    · exact KTree.back hr (pushT_k hi)
  | round l args m1 => exact KTree.back hr (pushT_k hi)
  | defer d =>
    simp only
    split
    · exact finishF_k fun fr => hi _ _ _
    · exact k_fail
  | recover =>
    simp only
    repeat' split
    all_goals first
      | exact k_fail
      | exact finishF_k fun fr => hi _ _ _
  | panic v m1 => exact KTree.back hr (hi _ _ _)
  | choose alts =>
    simp only
    intro l hl
    cases hl with
    | node ht hl =>
      obtain ⟨p, hp, rfl⟩ := List.mem_map.1 ht
      obtain ⟨v, m1⟩ := p
      exact (hr _ hp).trans (finishF_k (fun fr => hi _ _ _) l hl)
  | fail => exact k_fail
theorem goRF_k (hS : SpecK E) (hi : RunK ih) {fn n : Nat} {T : Tr AV} {k : List AItem} {ds : List ADef} {kd : CallKind} {ro : Option Nat} {cs : List AFrame} {f : Operand} {params : Array Tmp} {assign body : Code} {d : Nat} : KTree m (goRF E ih fn n T k ds kd ro cs f params assign body d m) := by
  unfold goRF
  rw [AMem.new_eq]
  refine KTree.back (Kept.push m (.loop .ready none fn n T params assign body d)) ?_
  have := opInvoke_k (m := m.push (.loop .ready none fn n T params assign body d)) hS (aev E T f) [.yield m.next]
  split
  · rename_i h
    rw [h] at this
    exact KTree.back this (pushT_k hi)
  · exact k_fail
theorem stepRF_k (hS : SpecK E) (hi : RunK ih) {fn n : Nat} {T : Tr AV} {k : List AItem} {ds : List ADef} {kd : CallKind} {ro : Option Nat} {cs : List AFrame} {f : Operand} {params : Array Tmp} {assign body : Code} : KTree m (stepRF E ih fn n T k ds kd ro cs m f params assign body) := by
  unfold stepRF
  repeat' split
  all_goals first
    | exact k_fail
    | exact goRF_k hS hi
    | skip
  rw [AMem.new_eq]
  exact KTree.back (Kept.push m (.deferred (some []))) (goRF_k hS hi)
theorem stepCode_k (hS : SpecK E) (hi : RunK ih) {fn n : Nat} {T : Tr AV} {c : Code} {k : List AItem} {ds : List ADef} {kd : CallKind} {ro : Option Nat} {cs : List AFrame} : KTree m (stepCode E ih fn n T c k ds kd ro cs m) := by
  unfold stepCode condF
  repeat' split
  all_goals first
    | exact k_fail
    | exact hi _ _ _
    | exact leaveF_k hi
    | exact stepRF_k hS hi
    | exact KTree.back (drawA_k hS hi ‹_›) (hi _ _ _)
theorem stepReg_k (hS : SpecK E) (hi : RunK ih) {fn n : Nat} {T : Tr AV} {ops : Array Oper} {rest : List Oper} {k : List AItem} {ds : List ADef} {kd : CallKind} {ro : Option Nat} {cs : List AFrame} : KTree m (stepReg E ih fn n T ops rest k ds kd ro cs m) := by
  unfold stepReg
  repeat' split
  all_goals first
    | exact k_fail
    | exact hi _ _ _
    | exact stepOp_k hi (aop_k hS _ _)
    | exact finishF_k fun fr => hi _ _ _
theorem stepItem_k (hS : SpecK E) (hi : RunK ih) {fn n : Nat} {T : Tr AV} {i : AItem} {k : List AItem} {ds : List ADef} {kd : CallKind} {ro : Option Nat} {cs : List AFrame} : KTree m (stepItem E ih fn n T i k ds kd ro cs m) := by
  unfold stepItem
  cases i with
  | code c => exact stepCode_k hS hi
  | inReg ops rest => exact stepReg_k hS hi
  | inBlock id => exact hi _ _ _
  | inScope c => exact hi _ _ _
  | inLoop c => exact hi _ _ _
  | inRF l => exact k_fail
  | beginRound =>
    simp only
    repeat' split
    all_goals first
      | exact k_fail
      | exact KTree.back (Kept.set _ _ _) (hi _ _ _)
  | endRF l =>
    simp only
    repeat' split
    all_goals first
      | exact k_fail
      | exact KTree.back (Kept.set _ _ _) (hi _ _ _)
theorem deferF_k (hS : SpecK E) (hi : RunK ih) {fn n : Nat} {T : Tr AV} {todo : List AItem} {d : ADef} {ds : List ADef} {md : AMode} {kd : CallKind} {ro : Option Nat} {cs : List AFrame} : KTree m (deferF E ih fn n T todo d ds md kd ro cs m) := by
  obtain ⟨tgt, dargs⟩ := d
  unfold deferF
  simp only
  split
  · split
    · exact KTree.back (Kept.set _ _ _) (hi _ _ _)
    · exact k_fail
  · rename_i f cap
    split
    · exact k_fail
    · split
      · rename_i h
        have := opCallFunc_k (m := m) hS f (appL dargs cap)
        rw [h] at this
        exact KTree.back this (pushT_k hi)
      · exact k_fail
  · exact k_fail
theorem returnF_k (hi : RunK ih) {fn : Nat} {T : Tr AV} {kd : CallKind} {cs : List AFrame} : KTree m (returnF E ih fn T kd cs m) := by
  unfold returnF
  repeat' split
  all_goals first
    | exact k_fail
    | exact doReturnA_k hi
theorem panicF_k (hi : RunK ih) {fn : Nat} {chain : List (AV × Bool)} {kd : CallKind} {ro : Option Nat} {cs : List AFrame} : KTree m (panicF E ih fn chain kd ro cs m) := by
  unfold panicF
  repeat' split
  all_goals first
    | exact k_fail
    | exact hi _ _ _
    | exact k_leaf (Kept.refl _)
theorem step_k (hS : SpecK E) (hi : RunK ih) : RunK (step E ih) := by
  intro fr cs m
  obtain ⟨fn, n, T, todo, ds, md, kd, ro⟩ := fr
  unfold step stepF
  simp only
  repeat' split
  all_goals first
    | exact leaveF_k hi
    | exact stepItem_k hS hi
    | exact deferF_k hS hi
    | exact returnF_k hi
    | exact panicF_k hi
theorem run_k (hS : SpecK E) : ∀ n, RunK (run E n) := by
  intro n
  induction n with
  | zero => intro fr cs m; exact k_fail
  | succ n ih => exact step_k hS ih
end
end Go.Ev
namespace Go.Ev
open Go Go.RowKit
section
variable {E : Env} {φ φ' : Phi} {ν : Nat → Int} {B : Nat} {b : Base} {w w' : World} {M M' : Machine} {t : Tree} {m m' : AMem} {P : Program}
theorem MRel.mark (h : MRel E φ ν B m w) : MRel E φ ν B m.mark w := ⟨h.toGRel, h.blk, h.dom, h.lt, h.inj, h.own, h.base, h.top, h.lim, h.vals, h.bas, h.old⟩
/-- The memory as it was ahead of the call; numbers that were given stay given. -/
theorem MRel.again (h : MRel E φ ν B m w) (h' : MRel E φ' ν B m' w') (hk : Kept m.mark m') (hb : m'.bad = false) {nx : Nat} (hn : m'.next ≤ nx) :
    MRel E φ' ν B ⟨m.blk, nx, m.wm, m.bad⟩ w' := by
  have old : ∀ id y, m.get id = some y → m'.get id = some y := by
    intro id y hy
    have hlt := h.top id y hy
    rw [hk.same hb id hlt hlt]
    exact hy
  have hnx : m.next ≤ m'.next := hk.next
  exact ⟨h'.toGRel, fun id y L hy hL => h'.blk id y L (old id y hy) hL, fun id L hL => Nat.lt_of_lt_of_le (h'.dom id L hL) hn, h'.lt,
    fun i j y z L1 L2 hy hz => h'.inj i j y z L1 L2 (old i y hy) (old j z hz), fun id y L hy => h'.own id y L (old id y hy), h'.base,
    fun id y hy => Nat.lt_of_lt_of_le (h.top id y hy) (Nat.le_trans hnx hn), Nat.le_trans h'.lim hn, h'.vals, h'.bas, h'.old⟩
theorem keyLeaf_any {a : AV} {c : Value} (h : keyLeaf a = true) (hv : VRel φ ν a c) : VRel φ' ν a c := by
  cases hv <;> first
    | (cases h; done)
    | exact .bool _
    | exact .int _ _
    | exact .str _
theorem keyAll_get : ∀ {cs : List AV}, keyAll cs = true → ∀ {i : Nat} {a}, cs[i]? = some a → keyLeaf a = true := by
  intro cs
  induction cs with
  | nil => intro _ i a h; simp at h
  | cons x cs ih =>
    intro h i a ha
    unfold keyAll at h
    split at h
    · rename_i hx
      cases i with
      | zero => simp at ha; subst ha; exact hx
      | succ i => exact ih h (by simpa using ha)
    · cases h
theorem plain_any {a : AV} {c : Value} (h : plainA a = true) (hv : VRel φ ν a c) : VRel φ' ν a c := by
  cases hv <;> first
    | (cases h; done)
    | exact .bool _
    | exact .int _ _
    | exact .str _
    | exact .nilPtr
    | exact .nilSlice
    | exact .nilMap
    | exact .nilFn
    | exact .nilIface
/-- A row of the call's, under a new number. -/
theorem MRel.adopt (h : MRel E φ' ν B m w') {id nx : Nat} {L : Loc} {cs : List AV} {ty lo hi : Nat} {ext : Bool} (hnx : m.next = nx) (hL : φ' id = some L)
    {o : Obj} (ho : w'.heap[L.b]? = some o) (hx : BObj φ' ν (.cells cs ty ext false lo hi) L o) (hown : B ≤ L.b) (hfree : ∀ j y L', m.get j = some y → φ' j = some L' → L'.b ≠ L.b) :
    MRel E (φ'.put nx L) ν B (m.push (.cells cs ty ext false lo hi)) w' := by
  subst hnx
  have hext := h.ext_put L
  have key : ∀ {j L'}, φ'.put m.next L j = some L' → (j = m.next ∧ L' = L) ∨ (j ≠ m.next ∧ φ' j = some L') := by
    intro j L' hj
    unfold Phi.put at hj; dsimp only at hj
    by_cases e : j = m.next
    · rw [if_pos e] at hj; simp only [Option.some.injEq] at hj; exact .inl ⟨e, hj.symm⟩
    · rw [if_neg e] at hj; exact .inr ⟨e, hj⟩
  have gk : ∀ {j y}, j ≠ m.next → (m.push (.cells cs ty ext false lo hi)).get j = some y → m.get j = some y := by
    intro j y e hy
    rw [AMem.get_push, if_neg (fun q => e q.symm)] at hy
    exact hy
  refine ⟨h.toGRel.mono hext, ?_, ?_, ?_, ?_, ?_, h.base, ?_, by rw [AMem.next_push]; exact Nat.le_succ_of_le h.lim, h.vals, h.bas, h.old⟩
  · intro j y L' hy hl
    rcases key hl with ⟨rfl, rfl⟩ | ⟨e, hl⟩
    · rw [AMem.get_push, if_pos rfl] at hy
      simp only [Option.some.injEq] at hy
      subst hy
      exact ⟨o, ho, hx.mono hext⟩
    · obtain ⟨o', h1, h2⟩ := h.blk j y L' (gk e hy) hl
      exact ⟨o', h1, h2.mono hext⟩
  · intro j L' hl
    rw [AMem.next_push]
    rcases key hl with ⟨rfl, rfl⟩ | ⟨e, hl⟩
    · omega
    · have := h.dom j L' hl; omega
  · intro j L' hl
    rcases key hl with ⟨rfl, rfl⟩ | ⟨e, hl⟩
    · exact h.lt id _ hL
    · exact h.lt j L' hl
  · intro i j y z L1 L2 hy hz h1 h2 heq
    rcases key h1 with ⟨e1, r1⟩ | ⟨e1, h1'⟩ <;> rcases key h2 with ⟨e2, r2⟩ | ⟨e2, h2'⟩
    · rw [e1, e2]
    · rw [r1] at heq; exact absurd heq.symm (hfree j z L2 (gk e2 hz) h2')
    · rw [r2] at heq; exact absurd heq (hfree i y L1 (gk e1 hy) h1')
    · exact h.inj i j y z L1 L2 (gk e1 hy) (gk e2 hz) h1' h2' heq
  · intro j y L' hy hl hw
    rcases key hl with ⟨rfl, rfl⟩ | ⟨e, hl⟩
    · exact hown
    · exact h.own j y L' (gk e hy) hl hw
  · intro j y hy
    rw [AMem.next_push]
    by_cases e : j = m.next
    · omega
    · have := h.top j y (gk e hy); omega
theorem join_ok {ih : Run} (hk : RunK ih) (hih : RunOk E ν ih) : JoinOk E ν ih := by
  intro φ B b m w f args cargs F X k hm ha hkk
  unfold joinCall
  split
  · rename_i fr hen
    split
    · rename_i r nx hj
      obtain ⟨hf, hq⟩ := joinT_sound _ _ hj
      obtain ⟨l, hl, he⟩ := hih φ B (.back F X) fr [] m.mark w _ [] (enterA_sound ha hen) .nil hm.mark trivial hf
      obtain ⟨v, m', nx', rfl, q2, q3⟩ := hq l hl
      obtain ⟨w', φ', x, hx, hm', hbl, hv, hs⟩ := he
      have hK : Kept m.mark m' := hk _ _ _ _ hl
      refine Good.back hs hx hbl ?_
      have hnx := packA_next q2
      unfold packA at q2
      split at q2
      · cases q2
      rename_i hbad
      subst hnx
      have hA := hm.again hm' hK hbad q3
      obtain ⟨blk, next, wm, bad⟩ := m
      split at q2
      · rename_i hp
        simp only [Option.some.injEq, Prod.mk.injEq] at q2
        obtain ⟨rfl, _⟩ := q2
        exact hkk φ' w' _ _ _ hx hbl hA hv
      · split at q2
        · rename_i id off len cap _
          split at q2
          · rename_i cs ty ext lo hi hid hget
            split at q2
            · rename_i hka
              simp only [Option.some.injEq, Prod.mk.injEq] at q2
              obtain ⟨rfl, _⟩ := q2
              obtain ⟨L, a, c, rfl, hsr⟩ := hv.slice_inv
              obtain ⟨o, ho, hbo⟩ := hm'.blk id _ L hget hsr.loc
              have hid' : next ≤ id := nat_blt_false hid
              have hnew := hA.adopt (id := id) (nx := nx) rfl hsr.loc ho hbo (hm'.own id _ L hget hsr.loc rfl) (by
                intro j y L' hy hj' heq
                have hlt := hm.top j y hy
                have := hm'.inj j id y _ L' L (by rw [hK.same hbad j hlt hlt]; exact hy) hget hj' hsr.loc heq
                subst this
                simp only at hlt
                omega)
              show Good E φ' ν B b _ w' (unpackA (.row cs ty ext lo hi off len cap) nx ⟨blk, next, wm, bad⟩ k)
              unfold unpackA
              simp only [force_eq, AMem.new_eq]
              have hput : Ext φ' (φ'.put nx L) := hA.ext_put L
              refine Good.back (Steps.refl _ _) hput (Below.refl _ _) ?_
              refine hkk _ w' _ _ _ (hx.trans hput) hbl hnew ?_
              exact SRel.vrel ⟨Phi.put_self _ _ _, hsr.addr, hsr.le, hsr.cap⟩
            · cases q2
          · cases q2
        · cases q2
    · exact good_fail
  · exact good_fail
end
end Go.Ev
