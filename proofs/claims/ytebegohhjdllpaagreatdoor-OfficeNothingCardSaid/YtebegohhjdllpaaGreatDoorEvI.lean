/-
  Regions that draw their order are sound.
-/
import Derived.Orders
import Derived.Test.YtebegohhjdllpaaGreatDoorEvH
set_option linter.unusedVariables false
set_option linter.unusedSimpArgs false
namespace Go.Ev
open Go
section
variable {E : Env} {T T' : Tr AV}
theorem evAll_congr : ∀ {l : List Operand}, (∀ x ∈ l, aev E T x = aev E T' x) → evAll E T l = evAll E T' l := by
  intro l
  induction l with
  | nil => intro _; rfl
  | cons x l ih => intro h; unfold evAll; rw [h x (.head _), ih fun y hy => h y (.tail _ hy)]
theorem evParts_congr : ∀ {l : List (Nat × Operand)}, (∀ x ∈ l.map (·.2), aev E T x = aev E T' x) → evParts E T l = evParts E T' l := by
  intro l
  induction l with
  | nil => intro _; rfl
  | cons p l ih =>
    intro h
    obtain ⟨i, x⟩ := p
    unfold evParts
    rw [h x (by simp), ih fun y hy => h y (by simp only [List.map_cons, List.mem_cons]; exact .inr hy)]
theorem evO_congr {o : Option Operand} (h : ∀ x ∈ o.toArray.toList, aev E T x = aev E T' x) : evO E T o = evO E T' o := by
  cases o with
  | none => rfl
  | some x => simp only [evO]; rw [h x (by simp)]
theorem call_args {c : Call} (h : ∀ x ∈ c.operands.toList, aev E T x = aev E T' x) : evAll E T c.args.toList = evAll E T' c.args.toList :=
  evAll_congr fun x hx => h x (by simp only [Call.operands, Array.toList_append, List.mem_append]; exact .inr hx)
theorem pop_congr (o : Op) (h : ∀ x ∈ o.operands.toList, aev E T x = aev E T' x) : pop E T o = pop E T' o := by
  cases o <;> simp only [Op.operands] at h <;> simp only [pop]
  case move x => rw [h x (by simp)]
  case assign x => rw [h x (by simp)]
  case pick c a b => rw [h c (by simp), h a (by simp), h b (by simp)]
  case build t ps => rw [evParts_congr h]
  case nilCheck x => rw [h x (by simp)]
  case binOp op t x y u => rw [h x (by simp), h y (by simp)]
  case unOp op t x => rw [h x (by simp)]
  case convert s d x => rw [h x (by simp)]
  case makeInterface t x => rw [h x (by simp)]
  case makeFunc f first cap =>
    have h1 : evAll E T first.toList = evAll E T' first.toList := evAll_congr fun x hx => h x (by simp only [Array.toList_append, List.mem_append]; exact .inl hx)
    have h2 : evAll E T cap.toList = evAll E T' cap.toList := evAll_congr fun x hx => h x (by simp only [Array.toList_append, List.mem_append]; exact .inr hx)
    cases f <;> simp only [h1, h2]
  case slice t x lo hi mx =>
    have m1 : ∀ y ∈ lo.toArray.toList, aev E T y = aev E T' y := fun y hy => h y (by simp only [Array.toList_append, List.mem_append]; exact .inl (.inl (.inr hy)))
    have m2 : ∀ y ∈ hi.toArray.toList, aev E T y = aev E T' y := fun y hy => h y (by simp only [Array.toList_append, List.mem_append]; exact .inl (.inr hy))
    have m3 : ∀ y ∈ mx.toArray.toList, aev E T y = aev E T' y := fun y hy => h y (by simp only [Array.toList_append, List.mem_append]; exact .inr hy)
    rw [h x (by simp), evO_congr m1, evO_congr m2, evO_congr m3]
  case fieldAddr s x f => rw [h x (by simp)]
  case field s x f => rw [h x (by simp)]
  case indexAddr t x i => rw [h x (by simp), h i (by simp)]
  case index t x i => rw [h x (by simp), h i (by simp)]
  case typeAssert x t a ok => rw [h x (by simp)]
  case extract x i => rw [h x (by simp)]
  case call c =>
    split
    · rw [call_args h]
    · rfl
theorem rop0k_congr (m : AMem) (o : Op) (h : ∀ x ∈ o.operands.toList, aev E T x = aev E T' x) : rop0 E T m o = rop0 E T' m o := by
  cases o <;> simp only [Op.operands] at h <;> simp only [rop0]
  case load t x => rw [h x (by simp)]
  case lookup t x i ok => rw [h x (by simp), h i (by simp)]
  case entry x => rw [h x (by simp)]
  case convert s d x => rw [h x (by simp)]
  case call c =>
    split
    · rw [call_args h]
    · rfl
theorem xop_congr (m : AMem) (o : Op) (h : ∀ x ∈ o.operands.toList, aev E T x = aev E T' x) : xop E T m o = xop E T' m o := by
  cases o <;> simp only [Op.operands] at h <;> simp only [xop]
  case load t x => rw [h x (by simp)]
  case indexAddr t x i => rw [h x (by simp), h i (by simp)]
  case binOp op t x y u => cases op <;> simp only [h x (by simp), h y (by simp)]
  case slice t x lo hi mx =>
    have m1 : ∀ y ∈ lo.toArray.toList, aev E T y = aev E T' y := fun y hy => h y (by simp only [Array.toList_append, List.mem_append]; exact .inl (.inl (.inr hy)))
    have m2 : ∀ y ∈ hi.toArray.toList, aev E T y = aev E T' y := fun y hy => h y (by simp only [Array.toList_append, List.mem_append]; exact .inl (.inr hy))
    have m3 : ∀ y ∈ mx.toArray.toList, aev E T y = aev E T' y := fun y hy => h y (by simp only [Array.toList_append, List.mem_append]; exact .inr hy)
    rw [h x (by simp), evO_congr m1, evO_congr m2, evO_congr m3]
  case call c =>
    split
    · rw [call_args h]
    · rfl
theorem rop_congr (m : AMem) (o : Op) (h : ∀ x ∈ o.operands.toList, aev E T x = aev E T' x) : rop E T m o = rop E T' m o := by
  unfold rop
  rw [rop0k_congr m o h, xop_congr m o h]
theorem lop_congr (o : Op) (h : ∀ x ∈ o.operands.toList, aev E T x = aev E T' x) : lop E T o = lop E T' o := by
  cases o <;> simp only [Op.operands] at h <;> simp only [lop]
  case box t x => rw [h x (by simp)]
  case buildSlice t n ps => rw [evParts_congr h]
  case convert s d x => rw [h x (by simp)]
  case makeSlice t l c => rw [h l (by simp), h c (by simp)]
  case makeMap t r => cases r <;> rfl
theorem eop_congr (m : AMem) (o : Op) (h : ∀ x ∈ o.operands.toList, aev E T x = aev E T' x) : eop E T m o = eop E T' m o := by
  cases o <;> simp only [Op.operands] at h <;> simp only [eop]
  case store t a x => rw [h a (by simp), h x (by simp)]
  case mapUpdate t x k v => rw [h x (by simp), h k (by simp), h v (by simp)]
  case insert t x k v => rw [h x (by simp), h k (by simp), h v (by simp)]
  case range t x => rw [h x (by simp)]
  case next x s => rw [h x (by simp)]
  case call c =>
    unfold opCall
    rw [call_args h]
    cases hc : c.callee with
    | builtin b => rfl
    | invoke r k => rfl
    | value f =>
      have : aev E T f = aev E T' f := h f (by simp [Call.operands, hc])
      cases f <;> simp only [this]
  case defer c =>
    unfold opDefer
    rw [call_args h]
    cases hc : c.callee with
    | builtin b => rfl
    | invoke r k => rfl
    | value f =>
      have : aev E T f = aev E T' f := h f (by simp [Call.operands, hc])
      simp only [this]
  case panic x => rw [h x (by simp)]
  case binOp op t x y u => rw [h x (by simp), h y (by simp)]
/-- The temporaries that an operation names. -/
theorem aev_congr {o : Oper} {ops : Array Oper} (h : ∀ t ∈ namesOf ops o, tget T t = tget T' t) : ∀ x ∈ o.op.operands.toList, aev E T x = aev E T' x := by
  intro x hx
  cases x with
  | tmp t =>
    refine h t ?_
    unfold namesOf
    simp only [List.mem_append, List.mem_flatMap]
    exact .inl (.inr ⟨.tmp t, hx, by simp [tmpOf]⟩)
  | const v => rfl
  | global g => rfl
  | func f => rfl
theorem wantedA_congr {o : Oper} {ops : Array Oper} (h : ∀ t ∈ namesOf ops o, tget T t = tget T' t) : wantedA ops T o = wantedA ops T' o := by
  unfold wantedA
  cases hg : o.guard with
  | none => rfl
  | some gw =>
    obtain ⟨j, want⟩ := gw
    simp only
    cases hj : ops[j]? with
    | none => rfl
    | some g =>
      simp only
      cases hd : g.dst with
      | none => rfl
      | some d =>
        simp only
        rw [h d]
        unfold namesOf
        rw [hg]
        simp only [List.mem_append]
        refine .inr ?_
        simp [dstOf, hj, hd]
end
end Go.Ev
namespace Go.Ev
open Go
/-- What the edges of an operation say, by what is known of the operations ahead. -/
def maskOf (acc : Array Nat) (o : Oper) : Nat := o.after.foldl (fun s e => if Region.binds .any e then s ||| 2 ^ e.on ||| acc.getD e.on 0 else s) 0
theorem maskFold (acc : Array Nat) (j : Nat) : ∀ (l : List Edge) (s : Nat), Nat.testBit (l.foldl (fun s e => if Region.binds .any e then s ||| 2 ^ e.on ||| acc.getD e.on 0 else s) s) j = true ↔
    Nat.testBit s j = true ∨ ∃ e ∈ l, Region.binds .any e = true ∧ (e.on = j ∨ Nat.testBit (acc.getD e.on 0) j = true) := by
  intro l
  induction l with
  | nil => intro s; simp
  | cons e l ih =>
    intro s
    rw [List.foldl_cons, ih]
    by_cases hb : Region.binds .any e = true
    · simp only [hb, if_true, Nat.testBit_or, Bool.or_eq_true, Nat.testBit_two_pow, decide_eq_true_eq, List.mem_cons, exists_eq_or_imp, true_and, or_assoc]
    · simp only [hb, Bool.false_eq_true, if_false, List.mem_cons, exists_eq_or_imp, false_and, false_or]
theorem maskOf_bit (acc : Array Nat) (o : Oper) (j : Nat) : Nat.testBit (maskOf acc o) j = true ↔ ∃ e ∈ o.after, Region.binds .any e = true ∧ (e.on = j ∨ Nat.testBit (acc.getD e.on 0) j = true) := by
  unfold maskOf
  rw [← Array.foldl_toList, maskFold]
  simp
theorem before_fold : ∀ (l : List Oper) (acc : Array Nat), let r := l.foldl (fun acc o => acc.push (maskOf acc o)) acc
    r.size = acc.size + l.length ∧ (∀ j, j < acc.size → r[j]? = acc[j]?) ∧
    ∀ i o, l[i]? = some o → ∃ acc' : Array Nat, acc'.size = acc.size + i ∧ (∀ j, j < acc'.size → r[j]? = acc'[j]?) ∧ r[acc.size + i]? = some (maskOf acc' o) := by
  intro l
  induction l with
  | nil => intro acc; exact ⟨rfl, fun _ _ => rfl, fun i o h => by simp at h⟩
  | cons o l ih =>
    intro acc
    obtain ⟨h1, h2, h3⟩ := ih (acc.push (maskOf acc o))
    simp only [Array.size_push] at h1 h2 h3
    refine ⟨by simp only [List.foldl_cons, List.length_cons]; omega, fun j hj => ?_, fun i o' hi => ?_⟩
    · rw [List.foldl_cons, h2 j (by omega), Array.getElem?_push, if_neg (by omega)]
    · cases i with
      | zero =>
        simp at hi
        subst hi
        refine ⟨acc, rfl, fun j hj => ?_, ?_⟩
        · rw [List.foldl_cons, h2 j (by omega), Array.getElem?_push, if_neg (by omega)]
        · rw [List.foldl_cons, Nat.add_zero, h2 _ (by omega), Array.getElem?_push, if_pos rfl]
      | succ i =>
        obtain ⟨acc', q1, q2, q3⟩ := h3 i o' (by simpa using hi)
        refine ⟨acc', by omega, q2, ?_⟩
        rw [List.foldl_cons]
        rw [show acc.size + (i + 1) = acc.size + 1 + i from by omega]
        exact q3
theorem before_eq (ops : Array Oper) : Region.before ops = ops.toList.foldl (fun acc o => acc.push (maskOf acc o)) #[] := by
  unfold Region.before
  rw [Array.foldl_toList]
  rfl
/-- What comes before an operation comes before it by an edge, and what comes before that. -/
theorem before_spec {ops : Array Oper} {i : Nat} {o : Oper} (ho : ops[i]? = some o) (j : Nat) :
    (bit (Region.before ops).toList i j = true → ∃ e ∈ o.after, Region.binds .any e = true ∧ (e.on = j ∨ bit (Region.before ops).toList e.on j = true)) ∧
    (∀ e ∈ o.after, Region.binds .any e = true → bit (Region.before ops).toList i e.on = true) := by
  obtain ⟨h1, h2, h3⟩ := before_fold ops.toList #[]
  rw [← before_eq] at h1 h2 h3
  obtain ⟨acc', q1, q2, q3⟩ := h3 i o (by simpa using ho)
  have hb : ∀ j, bit (Region.before ops).toList i j = Nat.testBit (maskOf acc' o) j := by
    intro j
    unfold bit
    rw [getL_eq, Array.getElem?_toList, show i = (#[] : Array Nat).size + i from by simp, q3]
  refine ⟨fun h => ?_, fun e he hbd => ?_⟩
  · rw [hb, maskOf_bit] at h
    obtain ⟨e, he, hbd, hj⟩ := h
    refine ⟨e, he, hbd, hj.imp id fun hj => ?_⟩
    unfold bit
    rw [getL_eq, Array.getElem?_toList]
    have hlt : e.on < acc'.size := by
      rcases Nat.lt_or_ge e.on acc'.size with q | q
      · exact q
      · rw [Array.getD_eq_getD_getElem?, Array.getElem?_eq_none q] at hj; simp at hj
    rw [q2 _ hlt, Array.getElem?_eq_getElem hlt]
    rw [Array.getD_eq_getD_getElem?, Array.getElem?_eq_getElem hlt] at hj
    exact hj
  · rw [hb, maskOf_bit]
    exact ⟨e, he, hbd, .inl rfl⟩
theorem bit_lt {masks : List Nat} {n i j : Nat} (hm : masks.all (fun b => Nat.blt b (2 ^ n)) = true) (h : bit masks i j = true) : j < n := by
  unfold bit at h
  rw [getL_eq] at h
  split at h
  · rename_i b hb
    have := List.all_eq_true.1 hm b (List.mem_of_getElem? hb)
    have hlt := nat_blt this
    rcases Nat.lt_or_ge j n with q | q
    · exact q
    · rw [Nat.testBit_lt_two_pow (Nat.lt_of_lt_of_le hlt (Nat.pow_le_pow_right (by omega) q))] at h; cases h
  · cases h
theorem memN_eq (n : Nat) : ∀ (l : List Nat), memN n l = true ↔ n ∈ l := by
  intro l
  induction l with
  | nil => exact ⟨fun h => (by cases h), fun h => (by cases h)⟩
  | cons a l ih =>
    show (match Nat.beq n a with | true => true | false => memN n l) = true ↔ _
    split
    · rename_i h; have := nat_beq h; subst this; simp
    · rename_i h; have := nat_beq_false h; rw [ih]; simp [this]
theorem allIn_spec {mask : Nat} {done : List Nat} : ∀ {l : List Nat}, allIn mask done l = true → ∀ j ∈ l, Nat.testBit mask j = true → j ∈ done := by
  intro l
  induction l with
  | nil => intro _ j h; cases h
  | cons i l ih =>
    intro h j hj hb
    unfold allIn at h
    split at h
    · cases h
    · rename_i hne
      cases hj with
      | head =>
        cases hd : memN i done with
        | true => exact (memN_eq _ _).1 hd
        | false => exact absurd hd (fun hd => hne hb hd)
      | tail _ hj => exact ih h j hj hb
/-- An order (the last first) that the edges allow. -/
def TopL (masks all : List Nat) : List Nat → Prop
  | [] => True
  | i :: l => i ∉ l ∧ i ∈ all ∧ (∀ j ∈ all, bit masks i j = true → j ∈ l) ∧ TopL masks all l
theorem topoD_sound {masks all : List Nat} : ∀ {ord done : List Nat}, topoD masks all done ord = true → TopL masks all done →
    TopL masks all (ord.reverse ++ done) ∧ ∀ j ∈ all, Nat.testBit (2 ^ all.length - 1) j = true → j ∈ ord.reverse ++ done := by
  intro ord
  induction ord with
  | nil => intro done h hd; exact ⟨by simpa using hd, fun j hj hb => by simpa using allIn_spec h j hj hb⟩
  | cons i ord ih =>
    intro done h hd
    unfold topoD at h
    split at h
    · rename_i b h1 h2 h3
      split at h
      · rename_i h4
        have hn : i ∉ done := fun q => by rw [(memN_eq _ _).2 q] at h1; cases h1
        have := ih (done := i :: done) h ⟨hn, (memN_eq _ _).1 h2, fun j hj hb => allIn_spec h4 j hj (by unfold bit at hb; rw [h3] at hb; exact hb), hd⟩
        simpa using this
      · cases h
    · cases h
theorem TopL.split {masks all : List Nat} {i : Nat} {post : List Nat} : ∀ {pre : List Nat}, TopL masks all (pre ++ i :: post) → i ∉ pre ∧ i ∉ post ∧ i ∈ all ∧ (∀ j ∈ all, bit masks i j = true → j ∈ post) ∧ TopL masks all post := by
  intro pre
  induction pre with
  | nil => intro h; exact ⟨by simp, h⟩
  | cons a pre ih =>
    intro h
    obtain ⟨h1, _, _, h4⟩ := h
    obtain ⟨q1, q2⟩ := ih h4
    refine ⟨?_, q2⟩
    intro hm
    cases hm with
    | head => exact h1 (by simp)
    | tail _ hm => exact q1 hm
theorem tmpsD_spec {ops : Array Oper} {masks : List Nat} (h : tmpsD ops masks = true) {i j : Nat} {o u : Oper} {t : Nat} (hi : ops[i]? = some o) (hj : ops[j]? = some u) (hd : u.dst = some t) (ht : t ∈ namesOf ops o) (hne : i ≠ j) :
    bit masks (max i j) (min i j) = true := by
  unfold tmpsD at h
  have m1 : (o, i) ∈ ops.toList.zipIdx := by rw [List.mem_zipIdx_iff_getElem?]; simpa using hi
  have m2 : (u, j) ∈ ops.toList.zipIdx := by rw [List.mem_zipIdx_iff_getElem?]; simpa using hj
  have h1 := List.all_eq_true.1 (List.all_eq_true.1 h _ m1) _ m2
  simp only [hd] at h1
  have hc : (namesOf ops o).contains t = true := by simpa using ht
  simp only [hc, Bool.or_eq_true, beq_iff_eq, hne, Bool.not_true, Bool.false_eq_true, false_or] at h1
  exact h1
end Go.Ev
namespace Go.Ev
open Go
noncomputable section
variable {E : Env} {ih : Run} {ops : Array Oper} {n : Nat} {T0 : Tr AV} {m0 : AMem}
inductive PushedTo : AMem → AMem → Prop
  | refl (m : AMem) : PushedTo m m
  | push {a b : AMem} (x : ABlk) : PushedTo a b → PushedTo a (b.push x)
theorem PushedTo.next {a b : AMem} (h : PushedTo a b) : a.next ≤ b.next := by
  induction h with
  | refl => exact Nat.le_refl _
  | push x _ ih => rw [AMem.next_push]; omega
def putV (T : Tr AV) (d : Option Nat) (v : AV) : Tr AV := match d with
  | some d => tput T d v
  | none => T
theorem putD_eq {T T' : Tr AV} {d : Option Nat} {v : AV} (h : putD n T d v = some T') : T' = putV T d v ∧ ∀ t, d = some t → t < n := by
  unfold putD at h
  split at h
  · split at h
    · rename_i hb
      simp only [Option.some.injEq] at h
      exact ⟨h.symm, fun t e => by cases e; exact nat_blt hb⟩
    · cases h
  · simp only [Option.some.injEq] at h
    exact ⟨h.symm, fun t e => by cases e⟩
variable (E ih ops n T0 m0) in
inductive Walk : List DEnt → Tr AV → AMem → List AMem → Nat → Prop
  | nil : Walk [] T0 m0 [] 0
  | skip {log T m ms k i o} : Walk log T m ms k → ops[i]? = some o → (∀ t, o.dst = some t → t < n) → wantedA ops T o = some false → Walk (⟨i, o, T, .skip, undefA, k⟩ :: log) (putV T o.dst undefA) m ms k
  | pure {log T m ms k i o v} : Walk log T m ms k → ops[i]? = some o → (∀ t, o.dst = some t → t < n) → wantedA ops T o = some true → pop E T o.op = some v → Walk (⟨i, o, T, .pure, v, k⟩ :: log) (putV T o.dst v) m ms k
  | read {log T m ms k i o v} : Walk log T m ms k → ops[i]? = some o → (∀ t, o.dst = some t → t < n) → wantedA ops T o = some true → rop E T m o.op = some v → Walk (⟨i, o, T, .read, v, k⟩ :: log) (putV T o.dst v) m ms k
  | lay {log T m ms k i o b f} : Walk log T m ms k → ops[i]? = some o → (∀ t, o.dst = some t → t < n) → wantedA ops T o = some true → lop E T o.op = some (b, f) →
      Walk (⟨i, o, T, .lay m.next b, f m.next, k⟩ :: log) (putV T o.dst (f m.next)) (m.push b) ms k
  | eff {log T m ms k i o v m1} : Walk log T m ms k → ops[i]? = some o → (∀ t, o.dst = some t → t < n) → wantedA ops T o = some true → callEnd E ih (eop E T m o.op) = some (v, m1) →
      Walk (⟨i, o, T, .eff, v, k⟩ :: log) (putV T o.dst v) m1 (m :: ms) (k + 1)
theorem oneD_walk {s s' : DSt} {ms : List AMem} {i : Nat} (h : Walk E ih ops n T0 m0 s.log s.T s.m ms s.k) (hs : s.states = s.m :: ms) (h1 : oneD E ih ops n i s = some s') :
    (∃ ms', Walk E ih ops n T0 m0 s'.log s'.T s'.m ms' s'.k ∧ s'.states = s'.m :: ms') ∧ s'.log.map (·.i) = i :: s.log.map (·.i) := by
  obtain ⟨T, m, states, k, log⟩ := s
  simp only at h hs
  subst hs
  unfold oneD at h1
  split at h1
  · cases h1
  rename_i o ho
  simp only at h1
  split at h1
  · cases h1
  · rename_i hw
    split at h1
    · rename_i T' hT
      simp only [Option.some.injEq] at h1
      subst h1
      obtain ⟨rfl, hd⟩ := putD_eq hT
      exact ⟨⟨ms, .skip h ho hd hw, rfl⟩, rfl⟩
    · cases h1
  rename_i hw
  split at h1
  · rename_i v hv
    split at h1
    · rename_i T' hT
      simp only [Option.some.injEq] at h1
      subst h1
      obtain ⟨rfl, hd⟩ := putD_eq hT
      exact ⟨⟨ms, .pure h ho hd hw hv, rfl⟩, rfl⟩
    · cases h1
  split at h1
  · rename_i v hv
    split at h1
    · rename_i T' hT
      simp only [Option.some.injEq] at h1
      subst h1
      obtain ⟨rfl, hd⟩ := putD_eq hT
      exact ⟨⟨ms, .read h ho hd hw hv, rfl⟩, rfl⟩
    · cases h1
  split at h1
  · rename_i b f hl
    rw [AMem.new_eq] at h1
    split at h1
    · rename_i T' hT
      simp only [Option.some.injEq] at h1
      subst h1
      obtain ⟨rfl, hd⟩ := putD_eq hT
      exact ⟨⟨ms, .lay h ho hd hw hl, rfl⟩, rfl⟩
    · cases h1
  split at h1
  · rename_i v m1 hc
    split at h1
    · rename_i T' hT
      simp only [Option.some.injEq] at h1
      subst h1
      obtain ⟨rfl, hd⟩ := putD_eq hT
      exact ⟨⟨m :: ms, .eff h ho hd hw hc, rfl⟩, rfl⟩
    · cases h1
  · cases h1
theorem walkD_walk : ∀ {ord : List Nat} {s s' : DSt} {ms : List AMem}, Walk E ih ops n T0 m0 s.log s.T s.m ms s.k → s.states = s.m :: ms → walkD E ih ops n ord s = some s' →
    (∃ ms', Walk E ih ops n T0 m0 s'.log s'.T s'.m ms' s'.k ∧ s'.states = s'.m :: ms') ∧ s'.log.map (·.i) = ord.reverse ++ s.log.map (·.i) := by
  intro ord
  induction ord with
  | nil => intro s s' ms h hs h1; unfold walkD at h1; simp only [Option.some.injEq] at h1; subst h1; exact ⟨⟨ms, h, hs⟩, by simp⟩
  | cons i ord ih' =>
    intro s s' ms h hs h1
    unfold walkD at h1
    split at h1
    · rename_i s1 hs1
      obtain ⟨⟨ms1, q1, q2⟩, q3⟩ := oneD_walk h hs hs1
      obtain ⟨r1, r2⟩ := ih' q1 q2 h1
      exact ⟨r1, by rw [r2, q3]; simp⟩
    · cases h1
/-- The value of a temporary, by all of the log. -/
def valAll (T0 : Tr AV) : List DEnt → Nat → AV
  | [], t => tget T0 t
  | e :: l, t => if e.o.dst = some t then e.v else valAll T0 l t
/-- By what is done of the log. -/
def valIn (D : Nat → Bool) (T0 : Tr AV) : List DEnt → Nat → AV
  | [], t => tget T0 t
  | e :: l, t => if D e.i = true ∧ e.o.dst = some t then e.v else valIn D T0 l t
theorem tget_putV (T : Tr AV) (d : Option Nat) (v : AV) (t : Nat) : tget (putV T d v) t = if d = some t then v else tget T t := by
  unfold putV
  cases d with
  | none => simp
  | some d => simp only [tget_tput, Option.some.injEq]
theorem Walk.val {log : List DEnt} {T : Tr AV} {m : AMem} {ms : List AMem} {k : Nat} (h : Walk E ih ops n T0 m0 log T m ms k) : ∀ t, tget T t = valAll T0 log t := by
  induction h with
  | nil => intro t; rfl
  | skip _ _ _ _ h => intro t; rw [tget_putV, h]; rfl
  | pure _ _ _ _ _ h => intro t; rw [tget_putV, h]; rfl
  | read _ _ _ _ _ h => intro t; rw [tget_putV, h]; rfl
  | lay _ _ _ _ _ h => intro t; rw [tget_putV, h]; rfl
  | eff _ _ _ _ _ h => intro t; rw [tget_putV, h]; rfl
/-- What an entry says of itself. -/
structure EntOk (E : Env) (ops : Array Oper) (n : Nat) (e : DEnt) : Prop where
  op : ops[e.i]? = some e.o
  dst : ∀ t, e.o.dst = some t → t < n
  kind : match e.kind with
    | .skip => wantedA ops e.T e.o = some false ∧ e.v = undefA
    | .pure => wantedA ops e.T e.o = some true ∧ pop E e.T e.o.op = some e.v
    | .read => wantedA ops e.T e.o = some true
    | .lay id b => wantedA ops e.T e.o = some true ∧ ∃ f, lop E e.T e.o.op = some (b, f) ∧ f id = e.v
    | .eff => wantedA ops e.T e.o = some true
theorem Walk.ent {log : List DEnt} {T : Tr AV} {m : AMem} {ms : List AMem} {k : Nat} (h : Walk E ih ops n T0 m0 log T m ms k) :
    ∀ pre e post, log = pre ++ e :: post → EntOk E ops n e ∧ ∀ t, tget e.T t = valAll T0 post t := by
  induction h with
  | nil => intro pre e post h; simp at h
  | skip hw ho hd hg h =>
    intro pre e post he
    cases pre with
    | nil => simp only [List.nil_append, List.cons.injEq] at he; obtain ⟨rfl, rfl⟩ := he; exact ⟨⟨ho, hd, hg, rfl⟩, hw.val⟩
    | cons a pre => simp only [List.cons_append, List.cons.injEq] at he; exact h pre e post he.2
  | pure hw ho hd hg hv h =>
    intro pre e post he
    cases pre with
    | nil => simp only [List.nil_append, List.cons.injEq] at he; obtain ⟨rfl, rfl⟩ := he; exact ⟨⟨ho, hd, hg, hv⟩, hw.val⟩
    | cons a pre => simp only [List.cons_append, List.cons.injEq] at he; exact h pre e post he.2
  | read hw ho hd hg hv h =>
    intro pre e post he
    cases pre with
    | nil => simp only [List.nil_append, List.cons.injEq] at he; obtain ⟨rfl, rfl⟩ := he; exact ⟨⟨ho, hd, hg⟩, hw.val⟩
    | cons a pre => simp only [List.cons_append, List.cons.injEq] at he; exact h pre e post he.2
  | lay hw ho hd hg hv h =>
    intro pre e post he
    cases pre with
    | nil => simp only [List.nil_append, List.cons.injEq] at he; obtain ⟨rfl, rfl⟩ := he; exact ⟨⟨ho, hd, hg, _, hv, rfl⟩, hw.val⟩
    | cons a pre => simp only [List.cons_append, List.cons.injEq] at he; exact h pre e post he.2
  | eff hw ho hd hg hv h =>
    intro pre e post he
    cases pre with
    | nil => simp only [List.nil_append, List.cons.injEq] at he; obtain ⟨rfl, rfl⟩ := he; exact ⟨⟨ho, hd, hg⟩, hw.val⟩
    | cons a pre => simp only [List.cons_append, List.cons.injEq] at he; exact h pre e post he.2
/-- What the log says of memory. -/
structure Book (E : Env) (ih : Run) (m0 : AMem) (log : List DEnt) (m : AMem) (ms : List AMem) (k : Nat) : Prop where
  len : ms.length = k
  effs : (effsOf log).length = k
  first : (m :: ms).reverse[0]? = some m0 ∨ ∃ ma, (m :: ms).reverse[0]? = some ma ∧ PushedTo m0 ma
  next : m0.next ≤ m.next
  lays : ∀ e ∈ log, ∀ id b, e.kind = .lay id b → m0.next ≤ id ∧ id < m.next ∧ e.k ≤ k
  dist : ∀ e ∈ log, ∀ e' ∈ log, ∀ id b b', e.kind = .lay id b → e'.kind = .lay id b' → e.i = e'.i
  eff : ∀ e ∈ log, e.kind = .eff → e.k < k ∧ (effsOf log).reverse[e.k]? = some e.i ∧ ∃ ma m1 mb, (m :: ms).reverse[e.k]? = some ma ∧ callEnd E ih (eop E e.T ma e.o.op) = some (e.v, m1) ∧
    (m :: ms).reverse[e.k + 1]? = some mb ∧ PushedTo m1 mb ∧ m1.next ≤ m.next ∧ ma.next ≤ m1.next ∧
    ∀ e' ∈ log, ∀ id b, e'.kind = .lay id b → (e'.k ≤ e.k → id < ma.next) ∧ (e.k < e'.k → m1.next ≤ id)
theorem rev_get {α : Type} (m : α) (ms : List α) (j : Nat) : (m :: ms).reverse[j]? = if j < ms.length then ms.reverse[j]? else if j = ms.length then some m else none := by
  rw [List.reverse_cons]
  by_cases h : j < ms.length
  · rw [if_pos h, List.getElem?_append_left (by simpa using h)]
  · rw [if_neg h, List.getElem?_append_right (by simpa using h)]
    by_cases e : j = ms.length
    · subst e; simp
    · rw [if_neg e, List.getElem?_eq_none]
      simp
      omega
theorem Book.quiet {log : List DEnt} {m : AMem} {ms : List AMem} {k : Nat} (h : Book E ih m0 log m ms k) {e : DEnt} (hk : ∀ id b, e.kind ≠ .lay id b) (he : e.kind ≠ .eff) : Book E ih m0 (e :: log) m ms k := by
  have hf : effsOf (e :: log) = effsOf log := by
    obtain ⟨i, o, T, kind, v, k'⟩ := e
    cases kind <;> first
      | rfl
      | exact absurd rfl he
  refine ⟨h.len, by rw [hf]; exact h.effs, h.first, h.next, ?_, ?_, ?_⟩
  · intro e' h' id b hb
    cases h' with
    | head => exact absurd hb (hk id b)
    | tail _ h' => exact h.lays e' h' id b hb
  · intro e1 h1 e2 h2 id b b' q1 q2
    cases h1 with
    | head => exact absurd q1 (hk id b)
    | tail _ h1 =>
      cases h2 with
      | head => exact absurd q2 (hk id b')
      | tail _ h2 => exact h.dist e1 h1 e2 h2 id b b' q1 q2
  · intro e1 h1 q1
    cases h1 with
    | head => exact absurd q1 he
    | tail _ h1 =>
      obtain ⟨r1, r2, ma, m1, mb, r3, r4, r5, r6, r7, r8, r9⟩ := h.eff e1 h1 q1
      refine ⟨r1, by rw [hf]; exact r2, ma, m1, mb, r3, r4, r5, r6, r7, r8, fun e' h' id b hb => ?_⟩
      cases h' with
      | head => exact absurd hb (hk id b)
      | tail _ h' => exact r9 e' h' id b hb
theorem Walk.book (hS : SpecK E) (hi : RunK ih) {log : List DEnt} {T : Tr AV} {m : AMem} {ms : List AMem} {k : Nat} (h : Walk E ih ops n T0 m0 log T m ms k) : Book E ih m0 log m ms k := by
  induction h with
  | nil => exact ⟨rfl, rfl, .inl rfl, Nat.le_refl _, fun e h => (by cases h), fun e h => (by cases h), fun e h => (by cases h)⟩
  | skip hw ho hd hg h => exact h.quiet (fun id b q => by cases q) (fun q => by cases q)
  | pure hw ho hd hg hv h => exact h.quiet (fun id b q => by cases q) (fun q => by cases q)
  | read hw ho hd hg hv h => exact h.quiet (fun id b q => by cases q) (fun q => by cases q)
  | @lay log T m ms k i o b f hw ho hd hg hv h =>
    refine ⟨h.len, h.effs, ?_, by rw [AMem.next_push]; exact Nat.le_succ_of_le h.next, ?_, ?_, ?_⟩
    · rw [rev_get]
      by_cases h0 : 0 < ms.length
      · have := h.first
        rw [rev_get, if_pos h0] at this
        rw [if_pos h0]
        exact this
      · have e0 : ms.length = 0 := by omega
        have := h.first
        rw [rev_get, if_neg h0, if_pos e0.symm] at this
        rw [if_neg h0, if_pos e0.symm]
        refine .inr ⟨_, rfl, .push _ ?_⟩
        rcases this with q | ⟨ma, q, q2⟩
        · simp only [Option.some.injEq] at q; subst q; exact .refl _
        · simp only [Option.some.injEq] at q; subst q; exact q2
    · intro e' h' id b' hb
      rw [AMem.next_push]
      cases h' with
      | head => cases hb; have := h.next; exact ⟨this, Nat.lt_succ_self _, Nat.le_refl _⟩
      | tail _ h' => obtain ⟨q1, q2, q3⟩ := h.lays e' h' id b' hb; exact ⟨q1, by omega, q3⟩
    · intro e1 h1 e2 h2 id b1 b2 q1 q2
      cases h1 with
      | head =>
        cases h2 with
        | head => rfl
        | tail _ h2 => cases q1; have := (h.lays e2 h2 _ b2 q2).2.1; omega
      | tail _ h1 =>
        cases h2 with
        | head => cases q2; have := (h.lays e1 h1 _ b1 q1).2.1; omega
        | tail _ h2 => exact h.dist e1 h1 e2 h2 id b1 b2 q1 q2
    · intro e1 h1 q1
      cases h1 with
      | head => cases q1
      | tail _ h1 =>
        obtain ⟨r1, r2, ma, m1, mb, r3, r4, r5, r6, r7, r8, r9⟩ := h.eff e1 h1 q1
        have hlen := h.len
        rw [rev_get] at r3 r5
        rw [if_pos (by omega)] at r3
        have last : ∀ e' ∈ (⟨i, o, T, .lay m.next b, f m.next, k⟩ : DEnt) :: log, ∀ id b', e'.kind = .lay id b' → (e'.k ≤ e1.k → id < ma.next) ∧ (e1.k < e'.k → m1.next ≤ id) := by
          intro e' h' id b' hb
          cases h' with
          | head => cases hb; exact ⟨fun q => by simp only at q; omega, fun _ => r7⟩
          | tail _ h' => exact r9 e' h' id b' hb
        by_cases hlt : e1.k + 1 < ms.length
        · rw [if_pos hlt] at r5
          exact ⟨r1, r2, ma, m1, mb, by rw [rev_get, if_pos (by omega)]; exact r3, r4, by rw [rev_get, if_pos hlt]; exact r5, r6, by rw [AMem.next_push]; omega, r8, last⟩
        · have e : e1.k + 1 = ms.length := by omega
          rw [if_neg hlt, if_pos e] at r5
          simp only [Option.some.injEq] at r5
          subst r5
          exact ⟨r1, r2, ma, m1, m.push b, by rw [rev_get, if_pos (by omega)]; exact r3, r4, by rw [rev_get, if_neg hlt, if_pos e], .push _ r6, by rw [AMem.next_push]; omega, r8, last⟩
  | @eff log T m ms k i o v m1 hw ho hd hg hv h =>
    have hk : Kept m m1 := callEnd_k hi (eop_k hS _ _) hv
    have hnx := hk.next
    have hlen := h.len
    have hf : effsOf ((⟨i, o, T, .eff, v, k⟩ : DEnt) :: log) = i :: effsOf log := rfl
    have hef := h.effs
    refine ⟨by simp only [List.length_cons]; omega, by rw [hf]; simp only [List.length_cons]; omega, ?_, Nat.le_trans h.next hnx, ?_, ?_, ?_⟩
    · rw [rev_get, if_pos (by simp)]; exact h.first
    · intro e' h' id b' hb
      cases h' with
      | head => cases hb
      | tail _ h' => obtain ⟨q1, q2, q3⟩ := h.lays e' h' id b' hb; exact ⟨q1, by omega, by omega⟩
    · intro e1 h1 e2 h2 id b1 b2 q1 q2
      cases h1 with
      | head => cases q1
      | tail _ h1 =>
        cases h2 with
        | head => cases q2
        | tail _ h2 => exact h.dist e1 h1 e2 h2 id b1 b2 q1 q2
    · intro e1 h1 q1
      rw [hf]
      cases h1 with
      | head =>
        refine ⟨Nat.lt_succ_self _, ?_, m, m1, m1, ?_, hv, ?_, .refl _, Nat.le_refl _, hnx, ?_⟩
        · show (i :: effsOf log).reverse[k]? = some i
          rw [rev_get, if_neg (by omega), if_pos hef.symm]
        · show (m1 :: m :: ms).reverse[k]? = some m
          rw [rev_get, if_pos (by simp only [List.length_cons]; omega), rev_get, if_neg (by omega), if_pos hlen.symm]
        · show (m1 :: m :: ms).reverse[k + 1]? = some m1
          rw [rev_get, if_neg (by simp only [List.length_cons]; omega), if_pos (by simp only [List.length_cons]; omega)]
        · intro e' h' id b' hb
          cases h' with
          | head => cases hb
          | tail _ h' =>
            obtain ⟨q1, q2, q3⟩ := h.lays e' h' id b' hb
            exact ⟨fun _ => q2, fun q => by simp only at q; omega⟩
      | tail _ h1 =>
        obtain ⟨r1, r2, ma, m2, mb, r3, r4, r5, r6, r7, r8, r9⟩ := h.eff e1 h1 q1
        have hefl : e1.k < (effsOf log).length := by omega
        refine ⟨by omega, by rw [rev_get, if_pos hefl]; exact r2, ma, m2, mb, ?_, r4, ?_, r6, by omega, r8, fun e' h' id b' hb => ?_⟩
        · rw [rev_get, if_pos (by simp only [List.length_cons]; omega)]; exact r3
        · rw [rev_get, if_pos (by simp only [List.length_cons]; omega)]; exact r5
        · cases h' with
          | head => cases hb
          | tail _ h' => exact r9 e' h' id b' hb
end
end Go.Ev
namespace Go.Ev
open Go Go.RowKit
structure Sub (φ φ' : Phi) : Prop where
  sub : ∀ id L, φ id = some L → φ' id = some L
  val : φ'.val = φ.val
instance {φ φ' : Phi} : CoeFun (Sub φ φ') (fun _ => ∀ id L, φ id = some L → φ' id = some L) := ⟨Sub.sub⟩
section
variable {E : Env} {φ φ' : Phi} {ν : Nat → Int} {B : Nat} {w w' : World} {m m' : AMem}
theorem VRel.sub (hx : Sub φ φ') {a : AV} {v : Value} (h : VRel φ ν a v) : VRel φ' ν a v := by
  induction h with
  | any v => exact .any v
  | bool b => exact .bool b
  | int k n => exact .int k n
  | sym i => exact .sym i
  | str s => exact .str s
  | nilPtr => exact .nilPtr
  | ptr h => exact .ptr (hx _ _ h)
  | nilSlice => exact .nilSlice
  | sliceE h ha hl => exact .sliceE (hx _ _ h) ha hl
  | sliceO h ha hl hs he => exact .sliceO (hx _ _ h) ha hl hs he
  | nilMap => exact .nilMap
  | map h => exact .map (hx _ _ h)
  | fn h1 _ h2 _ ih1 ih2 => exact .fn h1 (fun i a c ha hc => ih1 i a c ha hc) h2 (fun i a c ha hc => ih2 i a c ha hc)
  | yield h => exact .yield (hx _ _ h)
  | nilFn => exact .nilFn
  | iface _ ih => exact .iface ih
  | nilIface => exact .nilIface
  | one v h => exact .one v h
  | vstr h => exact .vstr (by rw [hx.val]; exact h)
  | vlen h => exact .vlen (by rw [hx.val]; exact h)
  | vgood h h' => exact .vgood (by rw [hx.val]; exact h) h'
  | vsl h ha hl => exact .vsl (hx _ _ h) ha hl
  | vsn h => exact .vsn (hx _ _ h)
  | agg h _ ih => exact .agg h (fun i a c ha hc => ih i a c ha hc)
  | tup h _ ih => exact .tup h (fun i a c ha hc => ih i a c ha hc)
theorem LRel.sub (hx : Sub φ φ') {as : List AV} {cs : List Value} (h : LRel φ ν as cs) : LRel φ' ν as cs := ⟨h.1, fun i a c ha hc => (h.2 i a c ha hc).sub hx⟩
theorem TRel.sub (hx : Sub φ φ') {n : Nat} {T : Tr AV} {tmps : Array Value} (h : TRel φ ν n T tmps) : TRel φ' ν n T tmps := ⟨h.1, fun t => (h.2 t).sub hx⟩
theorem GRel.sub {E : Env} (h : GRel E φ) (hx : Sub φ φ') : GRel E φ' := ⟨fun g hg => let ⟨L, h1, h2⟩ := h.glob g hg; ⟨L, hx _ _ h1, h2⟩⟩
theorem TgRel.sub (hx : Sub φ φ') {t : ATgt} {T : Target} (h : TgRel φ ν t T) : TgRel φ' ν t T := by
  cases h with
  | fn h => exact .fn (h.sub hx)
  | collected h => exact .collected (hx _ _ h)
theorem DRel.sub (hx : Sub φ φ') {d : ADef} {D : Deferred} (h : DRel φ ν d D) : DRel φ' ν d D := ⟨h.tgt.sub hx, h.args.sub hx⟩
theorem DsRel.sub (hx : Sub φ φ') {ds : List ADef} {Ds : List Deferred} (h : DsRel φ ν ds Ds) : DsRel φ' ν ds Ds := by
  induction h with
  | nil => exact .nil
  | cons h _ ih => exact .cons (h.sub hx) ih
theorem EsRel.sub (hx : Sub φ φ') {es : List AEnt} {cs : List MapEntry} (h : EsRel φ ν es cs) : EsRel φ' ν es cs := by
  induction h with
  | nil => exact .nil
  | cons h1 h2 h3 _ ih => exact .cons (h1.sub hx) (h2.sub hx) h3 ih
theorem CRel.sub (hx : Sub φ φ') {cs : List AV} {off : Nat} {cc : Array Value} (h : CRel φ ν cs off cc) : CRel φ' ν cs off cc :=
  fun i a ha => let ⟨c, h1, h2⟩ := h i a ha; ⟨c, h1, h2.sub hx⟩
theorem BObj.sub (hx : Sub φ φ') {b : ABlk} {L : Loc} {o : Obj} (h : BObj φ ν b L o) : BObj φ' ν b L o := by
  cases h with
  | cells h1 h2 h3 h4 h5 => exact .cells h1 h2 h3 (h4.sub hx) h5
  | xrow h h' => exact .xrow h (fun i a ha hi => let ⟨c, h1, h2⟩ := h' i a ha hi; ⟨c, h1, h2.sub hx⟩)
  | map h => exact .map (h.sub hx)
  | siter h => exact .siter h
  | miterN h => exact .miterN h
  | miterS h h' => exact .miterS h (hx _ _ h')
  | miterW h h' a b c d e f => exact .miterW h (hx _ _ h') a b c d e f
  | loop h h' => exact .loop (hx _ _ h) (h'.sub hx)
  | deferredN => exact .deferredN
  | deferredS h => exact .deferredS (h.sub hx)
/-- Another limit. -/
def Phi.at (φ : Phi) (l : Nat) : Phi := ⟨φ.map, l, φ.val⟩
theorem at_sub (φ : Phi) (l : Nat) : Sub φ (φ.at l) := ⟨fun _ _ h => h, rfl⟩
theorem of_at_sub (φ : Phi) (l : Nat) : Sub (φ.at l) φ := ⟨fun _ _ h => h, rfl⟩
theorem MRel.relim (h : MRel E φ ν B m w) {l : Nat} (hl : l ≤ m.next) : MRel E (φ.at l) ν B m w :=
  ⟨h.toGRel.sub (at_sub φ l), fun id b L hb hL => let ⟨o, h1, h2⟩ := h.blk id b L hb hL; ⟨o, h1, h2.sub (at_sub φ l)⟩, h.dom, h.lt, h.inj, h.own, h.base, h.top, hl, h.vals, h.bas, h.old⟩
/-- Blocks that have no place yet. -/
theorem MRel.grow {a b : AMem} (hp : PushedTo a b) (h : MRel E φ ν B a w) : MRel E φ ν B b w := by
  induction hp with
  | refl => exact h
  | @push b x _ ih =>
    have old : ∀ id y L, (b.push x).get id = some y → φ id = some L → b.get id = some y := by
      intro id y L hy hL
      have := ih.dom id L hL
      rw [AMem.get_push, if_neg (by omega)] at hy
      exact hy
    refine ⟨ih.toGRel, fun id y L hy hL => ih.blk id y L (old id y L hy hL) hL, fun id L hL => by rw [AMem.next_push]; exact Nat.lt_succ_of_lt (ih.dom id L hL), ih.lt,
      fun i j y z L1 L2 hy hz h1 h2 => ih.inj i j y z L1 L2 (old i y L1 hy h1) (old j z L2 hz h2) h1 h2, fun id y L hy hL => ih.own id y L (old id y L hy hL) hL, ih.base, fun id y hy => ?_,
      by rw [AMem.next_push]; exact Nat.le_succ_of_le ih.lim, ih.vals, ih.bas, ih.old⟩
    rw [AMem.next_push]
    rw [AMem.get_push] at hy
    by_cases e : b.next = id
    · omega
    · rw [if_neg e] at hy
      have := ih.top id y hy
      omega
/-- A block gets its place. -/
theorem MRel.fill (h : MRel E φ ν B m w) {id : Nat} {x : ABlk} {L : Loc} {o : Obj} (hx : m.get id = some x) (hn : φ id = none) (hlim : φ.lim ≤ id) (hp : Pushed w w' o) (hL : L.b = w.heap.size) (ho : BObj φ ν x L o) :
    Ext φ (φ.put id L) ∧ MRel E (φ.put id L) ν B m w' := by
  have hext : Ext φ (φ.put id L) := Ext.put L hn hlim
  have hsz : w'.heap.size = w.heap.size + 1 := by rw [hp.heap]; simp
  have key : ∀ {j L'}, φ.put id L j = some L' → (j = id ∧ L' = L) ∨ (j ≠ id ∧ φ j = some L') := by
    intro j L' hj
    by_cases e : j = id
    · subst e; rw [Phi.put_self] at hj; simp only [Option.some.injEq] at hj; exact .inl ⟨rfl, hj.symm⟩
    · rw [phi_put_ne L e] at hj; exact .inr ⟨e, hj⟩
  refine ⟨hext, h.toGRel.mono hext, ?_, ?_, ?_, ?_, ?_, ?_, h.top, h.lim, h.vals, h.bas, fun k hk => by rw [hp.heap, Array.getElem?_push, if_neg (by have := h.base; have := h.bas; omega)]; exact h.old k hk⟩
  · intro j y L' hy hl
    rcases key hl with ⟨rfl, rfl⟩ | ⟨e, hl⟩
    · rw [hx] at hy
      simp only [Option.some.injEq] at hy
      subst hy
      exact ⟨o, by rw [hL, hp.heap]; simp, ho.mono hext⟩
    · obtain ⟨o', h1, h2⟩ := h.blk j y L' hy hl
      refine ⟨o', ?_, h2.mono hext⟩
      have := h.lt j L' hl
      rw [hp.heap, Array.getElem?_push, if_neg (by omega)]
      exact h1
  · intro j L' hl
    rcases key hl with ⟨rfl, rfl⟩ | ⟨e, hl⟩
    · exact h.top _ _ hx
    · exact h.dom j L' hl
  · intro j L' hl
    rw [hsz]
    rcases key hl with ⟨rfl, rfl⟩ | ⟨e, hl⟩
    · omega
    · have := h.lt j L' hl; omega
  · intro i j y z L1 L2 hy hz h1 h2 heq
    rcases key h1 with ⟨e1, r1⟩ | ⟨e1, h1'⟩ <;> rcases key h2 with ⟨e2, r2⟩ | ⟨e2, h2'⟩
    · rw [e1, e2]
    · have := h.lt j L2 h2'; rw [r1] at heq; omega
    · have := h.lt i L1 h1'; rw [r2] at heq; omega
    · exact h.inj i j y z L1 L2 hy hz h1' h2' heq
  · intro j y L' hy hl hw
    rcases key hl with ⟨rfl, rfl⟩ | ⟨e, hl⟩
    · have := h.base; omega
    · exact h.own j y L' hy hl hw
  · have := h.base; omega
theorem eqCap_eq' {a b : ACap} (h : eqCap a b = true) : a = b := eqCap_eq h
mutual
theorem sameV_eq (a b : AV) (h : sameV a b = true) : a = b := by
  unfold sameV at h
  split at h
  · rfl
  · rfl
  · rfl
  · rfl
  · rfl
  · rfl
  · rw [eq_of_beq h]
  · simp only [Bool.and_eq_true] at h
    have e1 := kEq_eq h.1
    have e2 := h.2
    rw [eqI_eq] at e2
    simp only [decide_eq_true_eq] at e2
    rw [e1, e2]
  · rw [nat_beq h]
  · rw [eqN_eq] at h; simp only [decide_eq_true_eq] at h; rw [h]
  · simp only [Bool.and_eq_true] at h; rw [nat_beq h.1, nat_beq h.2]
  · simp only [Bool.and_eq_true] at h
    obtain ⟨⟨⟨h1, h2⟩, h3⟩, h4⟩ := h
    rw [nat_beq h1, nat_beq h2, nat_beq h3, eqCap_eq h4]
  · rw [nat_beq h]
  · simp only [Bool.and_eq_true] at h
    obtain ⟨⟨h1, h2⟩, h3⟩ := h
    rw [nat_beq h1, sameL_eq _ _ h2, sameL_eq _ _ h3]
  · rw [nat_beq h]
  · simp only [Bool.and_eq_true] at h
    rw [nat_beq h.1, sameV_eq _ _ h.2]
  · rw [sameL_eq _ _ h]
  · rw [sameL_eq _ _ h]
  · rfl
  · rw [nat_beq h]
  · rw [nat_beq h]
  · rw [nat_beq h]
  · rw [nat_beq h]
  · rw [nat_beq h]
  · simp only [Bool.and_eq_true] at h; rw [nat_beq h.1, nat_beq h.2]
  · cases h
theorem sameL_eq (a b : List AV) (h : sameL a b = true) : a = b := by
  unfold sameL at h
  split at h
  · rfl
  · simp only [Bool.and_eq_true] at h
    rw [sameV_eq _ _ h.1, sameL_eq _ _ h.2]
  · cases h
end
theorem sameB_eq {a b : ABlk} (h : sameB a b = true) : a = b := by
  unfold sameB at h
  split at h
  · simp only [Bool.and_eq_true] at h
    obtain ⟨⟨⟨⟨⟨h1, h2⟩, h3⟩, h4⟩, h5⟩, h6⟩ := h
    rw [sameL_eq _ _ h1, nat_beq h2, eq_of_beq h3, eq_of_beq h4, nat_beq h5, nat_beq h6]
  · rw [nat_beq h]
  · cases h
theorem fromTo_spec {p : AMem → Bool} {lo hi : Nat} : ∀ {l : List AMem} {k : Nat}, fromTo p lo hi k l = true → ∀ j m, l[j]? = some m → lo ≤ k + j → k + j ≤ hi → p m = true := by
  intro l
  induction l with
  | nil => intro k _ j m h; simp at h
  | cons a l ih =>
    intro k h j m hj h1 h2
    unfold fromTo at h
    cases j with
    | zero =>
      simp at hj
      subst hj
      have : (Nat.ble lo k && Nat.ble k hi) = true := by
        simp only [Bool.and_eq_true]
        exact ⟨Nat.ble_eq_true_of_le (by omega), Nat.ble_eq_true_of_le (by omega)⟩
      rw [this] at h
      simp only at h
      split at h
      · assumption
      · cases h
    | succ j =>
      have hj' : l[j]? = some m := by simpa using hj
      split at h
      · split at h
        · exact ih h j m hj' (by simp only [Nat.add_eq]; omega) (by simp only [Nat.add_eq]; omega)
        · cases h
      · exact ih h j m hj' (by simp only [Nat.add_eq]; omega) (by simp only [Nat.add_eq]; omega)
theorem allEnts_spec {masks effs : List Nat} {states : List AMem} : ∀ {l : List DEnt}, allEnts E masks effs states l = true → ∀ e ∈ l, entOk E masks effs states e = true := by
  intro l
  induction l with
  | nil => intro _ e h; cases h
  | cons a l ih =>
    intro h e he
    unfold allEnts at h
    split at h
    · rename_i ha
      cases he with
      | head => exact ha
      | tail _ he => exact ih h e he
    · cases h
theorem chainD_spec {masks : List Nat} : ∀ {l : List Nat}, chainD masks l = true → ∀ p i j, l[p]? = some i → l[p + 1]? = some j → bit masks j i = true := by
  intro l
  induction l with
  | nil => intro _ p i j h; simp at h
  | cons a l ih =>
    intro h p i j hi hj
    cases l with
    | nil => simp at hj
    | cons b l =>
      unfold chainD at h
      split at h
      · rename_i hb
        cases p with
        | zero => simp at hi hj; subst hi; subst hj; exact hb
        | succ p => exact ih h p i j (by simpa using hi) (by simpa using hj)
      · cases h
end
end Go.Ev
namespace Go.Ev
open Go Go.RowKit
section
variable {E : Env} {φ φ' : Phi} {ν : Nat → Int} {B : Nat} {b : Base} {w w' : World} {M M' : Machine} {t : Tree} {m m' : AMem} {P : Program} {ih : Run}
theorem endOf_eq {t : Tree} {v : AV} {m1 : AMem} (h : endOf t = some (v, m1)) : t = .leaf (.ret v m1) := by
  unfold endOf at h
  split at h
  · simp only [Option.some.injEq, Prod.mk.injEq] at h; obtain ⟨rfl, rfl⟩ := h; rfl
  · cases h
theorem good_end {F : Frame} {X : List Frame} {v : AV} {m1 : AMem} (h : Good E φ ν B (.back F X) M w (.leaf (.ret v m1))) :
    ∃ φ' x w', Steps E.P M (lone (F.finish x) X w') ∧ Ext φ φ' ∧ MRel E φ' ν B m1 w' ∧ Below B w w' ∧ VRel φ' ν v x := by
  obtain ⟨l, hl, he⟩ := h (.leaf _)
  cases hl
  obtain ⟨w', φ', x, h1, h2, h3, h4, h5⟩ := he
  exact ⟨φ', x, w', h5, h1, h2, h3, h4⟩
theorem callEnd_sound (hk : RunK ih) (hih : RunOk E ν ih) {fn : Nat} {tmps : Array Value} {ops : Array Oper} {i : Nat} {is : List Nat} {K : List Item} {ds : List Deferred} {kd : CallKind} {ro : Option Nat} {X : List Frame} {o : Oper}
    (ho : ops[i]? = some o) (hw : Region.wanted o (yielded ops tmps) = true) (hd : ro = none ∨ ∀ c, o.op ≠ .defer c) (hm : MRel E φ ν B m w)
    {r : ARes} (hr : ResOk E φ ν B m w ((execOp (Act.eval ⟨tmps, ds⟩) o).run E.P w) r) {v : AV} {m1 : AMem} (he : callEnd E ih r = some (v, m1)) :
    ∃ φ' x w', Steps E.P (lone ⟨fn, tmps, .inRegion ops (i :: is) :: K, ds, .run, kd, ro⟩ X w) (lone (Frame.finish ⟨fn, tmps, .inRegion ops (i :: is) :: K, ds, .run, kd, ro⟩ x) X w') ∧
      Ext φ φ' ∧ MRel E φ' ν B m1 w' ∧ Below B w w' ∧ VRel φ' ν v x := by
  unfold callEnd at he
  split at he
  · simp only [Option.some.injEq, Prod.mk.injEq] at he
    obtain ⟨rfl, rfl⟩ := he
    rcases hr with ⟨x, w1, hr, φ1, h1, h2, h3, h4⟩ | ⟨f, cargs, hr, hc⟩
    · exact ⟨φ1, x, w1, Steps.one (step_op_value ho hw hd hr), h1, h2, h3, h4⟩
    · obtain ⟨e, w1, frx, ⟨x, he, φ1, h1, h2, h3, h4⟩, hcm, hfn, hlv⟩ := hc (⟨fn, tmps, .inRegion ops (i :: is) :: K, ds, .run, kd, ro⟩ :: X)
      subst he
      exact ⟨φ1, x, w1, (Steps.one (step_op_enter ho hw hd hr)).trans (Steps.trans hcm (Steps.one (step_leave_returned hlv))), h1, h2, h3, h4⟩
  · rename_i f args m2
    obtain ⟨cargs, hr, hla, rfl⟩ := hr
    have hstep := step_op_enter (fn := fn) (is := is) (K := K) (kd := kd) (ro := ro) (cs := X) ho hw hd hr
    split at he
    · have := join_ok hk hih φ B (.back ⟨fn, tmps, .inRegion ops (i :: is) :: K, ds, .run, kd, ro⟩ X) _ w f args cargs ⟨fn, tmps, .inRegion ops (i :: is) :: K, ds, .run, kd, ro⟩ X (fun v m => .leaf (.ret v m)) hm hla
        (fun φ1 w1 m2 v x hx hbl hm2 hv => fun _ => ⟨_, .leaf _, w1, φ1, x, Ext.refl _, hm2, Below.refl _ _, hv, Steps.refl _ _⟩)
      rw [endOf_eq he] at this
      obtain ⟨φ1, x, w1, h1, h2⟩ := good_end this
      exact ⟨φ1, x, w1, (Steps.one hstep).trans h1, h2⟩
    · split at he
      · rename_i fr hen
        have := hih φ B (.back ⟨fn, tmps, .inRegion ops (i :: is) :: K, ds, .run, kd, ro⟩ X) fr [] _ w _ [] (enterA_sound hla hen) .nil hm trivial
        rw [endOf_eq he] at this
        obtain ⟨φ1, x, w1, h1, h2⟩ := good_end this
        exact ⟨φ1, x, w1, (Steps.one hstep).trans h1, h2⟩
      · cases he
  · obtain ⟨L, cargs, hL, hr, hla, rfl⟩ := hr
    split at he
    · rename_i fr hen
      obtain ⟨f, tm, x, y, hy, hfr⟩ := roundFrame_sound hm hL hla hen
      have := hih φ B (.back ⟨fn, tmps, .inRegion ops (i :: is) :: K, ds, .run, kd, ro⟩ X) fr [] _ w _ [] hfr .nil hm trivial
      rw [endOf_eq he] at this
      obtain ⟨φ1, z, w1, h1, h2⟩ := good_end this
      exact ⟨φ1, z, w1, (Steps.one (step_op_round ho hw hd (hr.trans hy))).trans h1, h2⟩
    · cases he
  · cases he
end
end Go.Ev
namespace Go.Ev
open Go Go.RowKit
structure Plan (E : Env) (ih : Run) (ops : Array Oper) (n : Nat) (T0 : Tr AV) (m0 : AMem) (log : List DEnt) (TF : Tr AV) (mF : AMem) (msF : List AMem) (kF : Nat) (masks : List Nat) : Prop where
  walk : Walk E ih ops n T0 m0 log TF mF msF kF
  book : Book E ih m0 log mF msF kF
  top : TopL masks (List.range ops.size) (log.map (·.i))
  all : ∀ i, i < ops.size → i ∈ log.map (·.i)
  tmps : tmpsD ops masks = true
  meq : masks = (Region.before ops).toList
  lt : masks.all (fun b => Nat.blt b (2 ^ ops.size)) = true
  chain : chainD masks (effsOf log).reverse = true
  ents : allEnts E masks (effsOf log).reverse (mF :: msF).reverse log = true
structure St (E : Env) (ν : Nat → Int) (B n : Nat) (ops : Array Oper) (T0 : Tr AV) (log : List DEnt) (states : List AMem) (masks : List Nat) (φ0 : Phi) (w0 : World) (D : Nat → Bool) (k : Nat) (T : Tr AV) (φ : Phi) (tmps : Array Value) (w : World) : Prop where
  sub : ∀ i, D i = true → i < ops.size
  closed : ∀ i, D i = true → ∀ j, bit masks i j = true → D j = true
  effk : ∀ p i, (effsOf log).reverse[p]? = some i → (D i = true ↔ p < k)
  mem : ∃ mk, states[k]? = some mk ∧ MRel E φ ν B mk w
  tr : TRel φ ν n T tmps
  val : ∀ t, tget T t = valIn D T0 log t
  free : ∀ e ∈ log, ∀ id b, e.kind = .lay id b → D e.i = false → φ id = none
  ext : Ext φ0 φ
  below : Below B w0 w
/-- What is done, and i. -/
def addD (D : Nat → Bool) (i : Nat) : Nat → Bool := fun j => D j || Nat.beq j i
theorem addD_true {D : Nat → Bool} {i j : Nat} : addD D i j = true ↔ D j = true ∨ j = i := by
  unfold addD
  simp [Nat.beq_eq]
theorem addD_false {D : Nat → Bool} {i j : Nat} : addD D i j = false ↔ D j = false ∧ j ≠ i := by
  cases h : addD D i j with
  | true => rcases addD_true.1 h with q | q <;> simp [q]
  | false =>
    have : ¬ (D j = true ∨ j = i) := fun q => by rw [addD_true.2 q] at h; cases h
    refine ⟨fun _ => ⟨?_, fun q => this (.inr q)⟩, fun _ => rfl⟩
    cases e : D j with
    | true => exact absurd (.inl e) this
    | false => rfl
theorem valIn_skip {D : Nat → Bool} {T0 : Tr AV} {t : Nat} : ∀ {pre l : List DEnt}, (∀ e ∈ pre, D e.i = true → e.o.dst ≠ some t) → valIn D T0 (pre ++ l) t = valIn D T0 l t := by
  intro pre
  induction pre with
  | nil => intro l _; rfl
  | cons e pre ih =>
    intro l h
    rw [List.cons_append]
    show (if D e.i = true ∧ e.o.dst = some t then e.v else valIn D T0 (pre ++ l) t) = _
    rw [if_neg (fun q => h e (.head _) q.1 q.2), ih fun e' h' => h e' (.tail _ h')]
theorem valIn_all {D : Nat → Bool} {T0 : Tr AV} {t : Nat} : ∀ {l : List DEnt}, (∀ e ∈ l, e.o.dst = some t → D e.i = true) → valIn D T0 l t = valAll T0 l t := by
  intro l
  induction l with
  | nil => intro _; rfl
  | cons e l ih =>
    intro h
    show (if D e.i = true ∧ e.o.dst = some t then e.v else valIn D T0 l t) = (if e.o.dst = some t then e.v else valAll T0 l t)
    rw [ih fun e' h' => h e' (.tail _ h')]
    by_cases hd : e.o.dst = some t
    · rw [if_pos ⟨h e (.head _) hd, hd⟩, if_pos hd]
    · rw [if_neg (fun q => hd q.2), if_neg hd]
theorem valIn_congr {D D' : Nat → Bool} {T0 : Tr AV} {t : Nat} : ∀ {l : List DEnt}, (∀ e ∈ l, e.o.dst = some t → D e.i = D' e.i) → valIn D T0 l t = valIn D' T0 l t := by
  intro l
  induction l with
  | nil => intro _; rfl
  | cons e l ih =>
    intro h
    show (if D e.i = true ∧ e.o.dst = some t then e.v else valIn D T0 l t) = (if D' e.i = true ∧ e.o.dst = some t then e.v else valIn D' T0 l t)
    rw [ih fun e' h' => h e' (.tail _ h')]
    by_cases hd : e.o.dst = some t
    · rw [h e (.head _) hd]
    · rw [if_neg (fun q => hd q.2), if_neg (fun q => hd q.2)]
theorem countB_le {α : Type} (p : α → Bool) : ∀ (l : List α), countB p l ≤ l.length := by
  intro l
  induction l with
  | nil => exact Nat.le_refl _
  | cons a l ih =>
    unfold countB
    split <;> simp only [List.length_cons] <;> omega
theorem countB_hi {α : Type} {p : α → Bool} : ∀ {l : List α} {k : Nat}, (∀ j a, l[j]? = some a → j < k → p a = true) → k ≤ l.length → k ≤ countB p l := by
  intro l
  induction l with
  | nil => intro k _ h; simp at h; omega
  | cons a l ih =>
    intro k h hk
    cases k with
    | zero => omega
    | succ k =>
      have h0 := h 0 a rfl (by omega)
      unfold countB
      rw [h0]
      have := ih (k := k) (fun j b hj hlt => h (j + 1) b (by simpa using hj) (by omega)) (by simpa using hk)
      show k + 1 ≤ Nat.succ _
      omega
theorem countB_lo {α : Type} {p : α → Bool} : ∀ {l : List α} {k : Nat}, (∀ j a, l[j]? = some a → p a = true → j < k) → countB p l ≤ k := by
  intro l
  induction l with
  | nil => intro k _; exact Nat.zero_le _
  | cons a l ih =>
    intro k h
    unfold countB
    cases k with
    | zero =>
      split
      · rename_i ha; have := h 0 a rfl ha; omega
      · exact ih (k := 0) (fun j b hj hb => by have := h (j + 1) b (by simpa using hj) hb; omega)
    | succ k =>
      have := ih (k := k) (fun j b hj hb => by have := h (j + 1) b (by simpa using hj) hb; omega)
      split
      · show Nat.succ _ ≤ k + 1; omega
      · omega
section
variable {E : Env} {φ φ0 : Phi} {ν : Nat → Int} {B n : Nat} {w w0 : World} {ih : Run} {ops : Array Oper} {T0 TF T : Tr AV} {m0 mF : AMem} {log : List DEnt} {msF : List AMem} {kF k : Nat} {masks : List Nat} {D : Nat → Bool} {tmps : Array Value}
/-- An operation whose turn it may be: what is known of it. -/
structure Turn (E : Env) (ops : Array Oper) (n : Nat) (T0 : Tr AV) (log : List DEnt) (masks : List Nat) (D : Nat → Bool) (e : DEnt) : Prop where
  mem : e ∈ log
  ent : EntOk E ops n e
  before : ∀ j, bit masks e.i j = true → D j = true
  look : ∀ t ∈ namesOf ops e.o, valIn D T0 log t = tget e.T t
  put : ∀ t, valIn (addD D e.i) T0 log t = if e.o.dst = some t then e.v else valIn D T0 log t
  one : ∀ e' ∈ log, e'.i = e.i → e' = e
theorem turn_of (hp : Plan E ih ops n T0 m0 log TF mF msF kF masks) (hsub : ∀ i, D i = true → i < ops.size) (hcl : ∀ i, D i = true → ∀ j, bit masks i j = true → D j = true) {i : Nat} (hi : i < ops.size) (hn : D i = false)
    (hr : ∀ o, ops[i]? = some o → ∀ ed ∈ o.after, Region.binds .any ed = true → D ed.on = true) : ∃ e, e.i = i ∧ Turn E ops n T0 log masks D e := by
  have hm := hp.all i hi
  obtain ⟨e, he, hei⟩ := List.mem_map.1 hm
  obtain ⟨pre, post, hl⟩ := List.append_of_mem he
  obtain ⟨hent, hT⟩ := hp.walk.ent pre e post hl
  have htop := hp.top
  rw [hl, List.map_append, List.map_cons] at htop
  obtain ⟨t1, t2, t3, t4, t5⟩ := htop.split
  rw [hei] at t1 t2 t3 t4
  have hbef : ∀ j, bit masks i j = true → D j = true := by
    intro j hb
    have ho := hent.op
    rw [hei] at ho
    rw [hp.meq] at hb
    obtain ⟨ed, h1, h2, h3⟩ := (before_spec ho j).1 hb
    have hd := hr _ ho ed h1 h2
    rcases h3 with rfl | h3
    · exact hd
    · exact hcl _ hd j (by rw [hp.meq]; exact h3)
  have inLt : ∀ j, bit masks i j = true → j < ops.size := fun j hb => bit_lt hp.lt hb
  -- others that name what e names
  have hpre : ∀ t ∈ namesOf ops e.o, ∀ e' ∈ pre, e'.o.dst = some t → D e'.i = false := by
    intro t ht e' he' hd
    have hne : e.i ≠ e'.i := by
      intro q
      rw [hei] at q
      exact t1 (List.mem_map.2 ⟨e', he', q.symm⟩)
    obtain ⟨p1, p2, hs⟩ := List.append_of_mem he'
    have hl' : log = p1 ++ e' :: (p2 ++ e :: post) := by rw [hl, hs]; simp
    have hent' := (hp.walk.ent p1 e' _ hl').1
    have hb := tmpsD_spec hp.tmps hent.op hent'.op hd ht hne
    rw [hei] at hb hne
    rcases Nat.lt_or_ge i e'.i with q | q
    · rw [Nat.max_eq_right (by omega), Nat.min_eq_left (by omega)] at hb
      cases hD : D e'.i with
      | false => rfl
      | true => have := hcl _ hD _ hb; rw [hn] at this; cases this
    · rw [Nat.max_eq_left (by omega), Nat.min_eq_right (by omega)] at hb
      have hj := t4 e'.i (List.mem_range.2 (inLt _ hb)) hb
      -- e' stands twice
      exfalso
      have htop' := hp.top
      rw [hl', List.map_append, List.map_cons] at htop'
      obtain ⟨_, u2, _⟩ := htop'.split
      exact u2 (by rw [List.map_append, List.map_cons]; exact List.mem_append_right _ (List.mem_cons_of_mem _ hj))
  have hpost : ∀ t ∈ namesOf ops e.o, ∀ e' ∈ post, e'.o.dst = some t → D e'.i = true := by
    intro t ht e' he' hd
    have hne : e.i ≠ e'.i := by
      intro q
      rw [hei] at q
      exact t2 (List.mem_map.2 ⟨e', he', q.symm⟩)
    obtain ⟨p1, p2, hs⟩ := List.append_of_mem he'
    have hl' : log = (pre ++ e :: p1) ++ e' :: p2 := by rw [hl, hs]; simp
    have hent' := (hp.walk.ent _ e' _ hl').1
    have hb := tmpsD_spec hp.tmps hent.op hent'.op hd ht hne
    rw [hei] at hb hne
    rcases Nat.lt_or_ge e'.i i with q | q
    · rw [Nat.max_eq_left (by omega), Nat.min_eq_right (by omega)] at hb
      exact hbef _ hb
    · rw [Nat.max_eq_right (by omega), Nat.min_eq_left (by omega)] at hb
      exfalso
      have htop' := hp.top
      rw [hl', List.map_append, List.map_cons] at htop'
      obtain ⟨_, _, _, u4, _⟩ := htop'.split
      have := u4 i (List.mem_range.2 hi) hb
      refine t2 ?_
      rw [hs, List.map_append, List.map_cons]
      exact List.mem_append_right _ (List.mem_cons_of_mem _ this)
  have one : ∀ e' ∈ log, e'.i = e.i → e' = e := by
    intro e' h' q
    rw [hl] at h'
    rw [hei] at q
    rcases List.mem_append.1 h' with r | r
    · exact absurd (List.mem_map.2 ⟨e', r, q⟩) t1
    · cases r with
      | head => rfl
      | tail _ r => exact absurd (List.mem_map.2 ⟨e', r, q⟩) t2
  refine ⟨e, hei, he, hent, by rw [hei]; exact hbef, fun t ht => ?_, fun t => ?_, one⟩
  · rw [hl, valIn_skip (fun e' h' hD hd => by rw [hpre t ht e' h' hd] at hD; cases hD)]
    show (if D e.i = true ∧ e.o.dst = some t then e.v else valIn D T0 post t) = _
    rw [hei, hn, if_neg (fun q => by cases q.1), valIn_all (hpost t ht), hT t]
  · by_cases hd : e.o.dst = some t
    · rw [if_pos hd, hl]
      have ht : t ∈ namesOf ops e.o := by unfold namesOf; simp [hd]
      rw [valIn_skip (fun e' h' hD hd' => ?_)]
      · show (if addD D e.i e.i = true ∧ e.o.dst = some t then e.v else valIn (addD D e.i) T0 post t) = _
        rw [if_pos ⟨addD_true.2 (.inr rfl), hd⟩]
      · rcases addD_true.1 hD with q | q
        · rw [hpre t ht e' h' hd'] at q; cases q
        · rw [hei] at q; exact t1 (List.mem_map.2 ⟨e', h', q⟩)
    · rw [if_neg hd]
      refine valIn_congr fun e' h' hd' => ?_
      cases h1 : D e'.i with
      | true => exact addD_true.2 (.inl h1)
      | false => exact addD_false.2 ⟨h1, fun q => hd (by rw [one e' h' q] at hd'; exact hd')⟩
end
end Go.Ev
namespace Go.Ev
open Go Go.RowKit
section
variable {E : Env} {φ φ0 : Phi} {ν : Nat → Int} {B n : Nat} {w w0 : World} {ih : Run} {ops : Array Oper} {T0 TF T : Tr AV} {m0 mF : AMem} {log : List DEnt} {msF : List AMem} {kF k : Nat} {masks : List Nat} {D : Nat → Bool} {tmps : Array Value}
theorem effs_mem : ∀ {log : List DEnt} {i : Nat}, i ∈ effsOf log → ∃ e ∈ log, e.kind = .eff ∧ e.i = i := by
  intro log
  induction log with
  | nil => intro i h; cases h
  | cons e log ih =>
    intro i h
    obtain ⟨j, o, T, kind, v, q⟩ := e
    cases kind with
    | eff =>
      cases h with
      | head => exact ⟨_, .head _, rfl, rfl⟩
      | tail _ h => obtain ⟨e', h1, h2⟩ := ih h; exact ⟨e', .tail _ h1, h2⟩
    | _ => obtain ⟨e', h1, h2⟩ := ih h; exact ⟨e', .tail _ h1, h2⟩
/-- The temporaries behind a value. -/
def putT (d : Option Nat) (x : Value) (tmps : Array Value) : Array Value := match d with
  | some d => tmps.setIfInBounds d x
  | none => tmps
theorem TRel.putV {T : Tr AV} (h : TRel φ ν n T tmps) {d : Option Nat} {a : AV} {x : Value} (hd : ∀ t, d = some t → t < n) (hv : VRel φ ν a x) : TRel φ ν n (putV T d a) (putT d x tmps) := by
  cases d with
  | none => exact h
  | some d => exact h.put hv (hd d rfl)
theorem finish_eq {fn : Nat} {tmps : Array Value} {ops : Array Oper} {i : Nat} {is : List Nat} {K : List Item} {ds : List Deferred} {kd : CallKind} {ro : Option Nat} {o : Oper} (ho : ops[i]? = some o) (x : Value) :
    Frame.finish ⟨fn, tmps, .inRegion ops (i :: is) :: K, ds, .run, kd, ro⟩ x = ⟨fn, putT o.dst x tmps, .inRegion ops is :: K, ds, .run, kd, ro⟩ := by
  simp only [Frame.finish, ho, Option.bind_some, putT]
  try rfl
theorem callEnd_defer {r : ARes} {T : Tr AV} {c : Call} (h : r = opDefer E T c) : callEnd E ih r = none := by
  subst h
  unfold opDefer
  repeat' split
  all_goals rfl
theorem draw_one (hν : Bounded E ν) (hS : SpecOk E ν) (hk : RunK ih) (hih : RunOk E ν ih) (hp : Plan E ih ops n T0 m0 log TF mF msF kF masks) (hl0 : φ0.lim ≤ m0.next)
    (hs : St E ν B n ops T0 log (mF :: msF).reverse masks φ0 w0 D k T φ tmps w) {e : DEnt} (ht : Turn E ops n T0 log masks D e) (hn : D e.i = false)
    {fn : Nat} {is : List Nat} {K : List Item} {ds : List Deferred} {kd : CallKind} {ro : Option Nat} {X : List Frame} :
    ∃ k' T' φ' tmps' w', Steps E.P (lone ⟨fn, tmps, .inRegion ops (e.i :: is) :: K, ds, .run, kd, ro⟩ X w) (lone ⟨fn, tmps', .inRegion ops is :: K, ds, .run, kd, ro⟩ X w') ∧
      St E ν B n ops T0 log (mF :: msF).reverse masks φ0 w0 (addD D e.i) k' T' φ' tmps' w' := by
  obtain ⟨mk, hmk, hM⟩ := hs.mem
  have ho := ht.ent.op
  have hlook : ∀ t ∈ namesOf ops e.o, tget T t = tget e.T t := fun t h => (hs.val t).trans (ht.look t h)
  have hops := aev_congr (E := E) hlook
  have hwant := wantedA_congr hlook
  have hlt : e.i < ops.size := (Array.getElem?_eq_some_iff.1 ho).1
  have hsub : ∀ i, addD D e.i i = true → i < ops.size := fun i h => (addD_true.1 h).elim (hs.sub i) (fun q => q ▸ hlt)
  have hcl : ∀ i, addD D e.i i = true → ∀ j, bit masks i j = true → addD D e.i j = true := by
    intro i h j hb
    rcases addD_true.1 h with q | q
    · exact addD_true.2 (.inl (hs.closed i q j hb))
    · subst q; exact addD_true.2 (.inl (ht.before j hb))
  have hval : ∀ t, tget (putV T e.o.dst e.v) t = valIn (addD D e.i) T0 log t := fun t => by rw [tget_putV, ht.put t, hs.val t]
  have hfree : ∀ e' ∈ log, ∀ id b, e'.kind = .lay id b → addD D e.i e'.i = false → φ id = none := fun e' h id b q r => hs.free e' h id b q (addD_false.1 r).1
  have hlen : k ≤ (effsOf log).reverse.length := by
    have := (List.getElem?_eq_some_iff.1 hmk).1
    simp only [List.length_reverse, List.length_cons] at this
    have h1 := hp.book.len
    have h2 := hp.book.effs
    rw [List.length_reverse]
    omega
  have hlo : countB (fun j => bit masks e.i j) (effsOf log).reverse ≤ k := countB_lo fun p a ha hb => (hs.effk p a ha).1 (ht.before a hb)
  have hhi : k ≤ countB (fun j => !(bit masks j e.i)) (effsOf log).reverse := by
    refine countB_hi (fun p a ha hlt => ?_) hlen
    cases hb : bit masks a e.i with
    | false => rfl
    | true => have := hs.closed a ((hs.effk p a ha).2 hlt) e.i hb; rw [hn] at this; cases this
  have heffk : e.kind ≠ .eff → ∀ p i, (effsOf log).reverse[p]? = some i → (addD D e.i i = true ↔ p < k) := by
    intro hne p i h
    rw [← hs.effk p i h]
    refine ⟨fun q => (addD_true.1 q).elim id (fun q => ?_), fun q => addD_true.2 (.inl q)⟩
    exfalso
    obtain ⟨e', h1, h2, h3⟩ := effs_mem (List.mem_reverse.1 (List.mem_of_getElem? h))
    have := ht.one e' h1 (h3.trans q)
    subst this
    exact hne h2
  have hent := allEnts_spec hp.ents e ht.mem
  have hkd := ht.ent.kind
  -- what leaves memory as it is
  have quiet : ∀ x, e.kind ≠ .eff → VRel φ ν e.v x → Go.step E.P (lone ⟨fn, tmps, .inRegion ops (e.i :: is) :: K, ds, .run, kd, ro⟩ X w) = .next (lone (Frame.finish ⟨fn, tmps, .inRegion ops (e.i :: is) :: K, ds, .run, kd, ro⟩ x) X w) →
      ∃ k' T' φ' tmps' w', Steps E.P (lone ⟨fn, tmps, .inRegion ops (e.i :: is) :: K, ds, .run, kd, ro⟩ X w) (lone ⟨fn, tmps', .inRegion ops is :: K, ds, .run, kd, ro⟩ X w') ∧
        St E ν B n ops T0 log (mF :: msF).reverse masks φ0 w0 (addD D e.i) k' T' φ' tmps' w' := by
    intro x hne hv hst
    rw [finish_eq ho] at hst
    exact ⟨k, _, φ, _, w, Steps.one hst, hsub, hcl, heffk hne, ⟨mk, hmk, hM⟩, hs.tr.putV ht.ent.dst hv, hval, hfree, hs.ext, hs.below⟩
  unfold entOk at hent
  simp only at hent
  cases hkind : e.kind with
  | skip =>
    rw [hkind] at hkd
    simp only at hkd
    have hw := wantedA_sound hs.tr (hwant.trans hkd.1)
    exact quiet undef (by rw [hkind]; simp) (by rw [hkd.2]; exact undef_rel) (step_op_skip' ho hw)
  | pure =>
    rw [hkind] at hkd
    simp only at hkd
    have hw := wantedA_sound hs.tr (hwant.trans hkd.1)
    have hpop : pop E T e.o.op = some e.v := (pop_congr _ hops).trans hkd.2
    obtain ⟨x, h1, h2⟩ := pop_sound (a := ⟨tmps, ds⟩) hν hM.toGRel hs.tr hpop (w := w)
    exact quiet x (by rw [hkind]; simp) h2 (step_op_value ho hw (.inr fun c hc => by rw [hc] at hpop; cases hpop) (.inl h1))
  | read =>
    rw [hkind] at hkd hent
    simp only at hkd hent
    have hw := wantedA_sound hs.tr (hwant.trans hkd)
    have := fromTo_spec hent k mk hmk (by omega) (by omega)
    split at this
    · rename_i v' hv'
      have hveq := sameV_eq _ _ this
      subst hveq
      have hrop : rop E T mk e.o.op = some e.v := (rop_congr mk _ hops).trans hv'
      obtain ⟨x, h1, h2⟩ := rop_sound (a := ⟨tmps, ds⟩) hM hs.tr hrop
      exact quiet x (by rw [hkind]; simp) h2 (step_op_value ho hw (.inr fun c hc => by rw [hc] at hrop; cases hrop) (.inl h1))
    · cases this
  | lay id b =>
    rw [hkind] at hkd hent
    simp only [Bool.and_eq_true] at hkd hent
    obtain ⟨hwa, f, hlop, hfv⟩ := hkd
    have hw := wantedA_sound hs.tr (hwant.trans hwa)
    have := fromTo_spec hent.2 k mk hmk (by omega) (by omega)
    split at this
    · rename_i b' hb'
      have hbeq := sameB_eq this
      subst hbeq
      have hlop' : lop E T e.o.op = some (b, f) := (lop_congr _ hops).trans hlop
      obtain ⟨w1, ob, L, v, h1, h2, h3, h4, h5⟩ := lop_sound (w := w) (a := ⟨tmps, ds⟩) hM.toGRel hs.tr hlop'
      have hnone : φ id = none := hs.free e ht.mem id b hkind hn
      have hids := hp.book.lays e ht.mem id b hkind
      have hlim : φ.lim ≤ id := by rw [hs.ext.lim]; omega
      obtain ⟨hx, hM'⟩ := hM.fill hb' hnone hlim h2 h3 h4
      have hv : VRel (φ.put id L) ν e.v v := by rw [← hfv]; exact h5 _ _ (Phi.put_self _ _ _)
      have hst := step_op_value (fn := fn) (is := is) (K := K) (kd := kd) (ro := ro) (cs := X) ho hw (.inr fun c hc => by rw [hc] at hlop'; cases hlop') (.inl h1)
      rw [finish_eq ho] at hst
      refine ⟨k, _, φ.put id L, _, w1, Steps.one hst, hsub, hcl, heffk (by rw [hkind]; simp), ⟨mk, hmk, hM'⟩, (hs.tr.mono hx).putV ht.ent.dst hv, hval, ?_, hs.ext.trans hx, hs.below.trans (h2.below hM.base)⟩
      intro e' he' id' b' hk' hD'
      rw [phi_put_ne L (fun q => ?_)]
      · exact hfree e' he' id' b' hk' hD'
      · subst q
        exact (addD_false.1 hD').2 (hp.book.dist e' he' e ht.mem _ _ _ hk' hkind)
    · cases this
  | eff =>
    rw [hkind] at hkd
    simp only at hkd
    have hw := wantedA_sound hs.tr (hwant.trans hkd)
    obtain ⟨r1, r2, ma, m1, mb, r3, r4, r5, r6, r7, r8, r9⟩ := hp.book.eff e ht.mem hkind
    have hprev : ∀ p, (effsOf log).reverse[p + 1]? = some e.i → p < k := by
      intro p hp1
      have hlt := (List.getElem?_eq_some_iff.1 hp1).1
      have hg : (effsOf log).reverse[p]? = some ((effsOf log).reverse[p]'(by omega)) := List.getElem?_eq_getElem (by omega)
      exact (hs.effk p _ hg).1 (ht.before _ (chainD_spec hp.chain p _ _ hg hp1))
    have hke : e.k = k := by
      have h1 : ¬ e.k < k := fun q => by have := (hs.effk _ _ r2).2 q; rw [hn] at this; cases this
      cases hek : e.k with
      | zero => omega
      | succ p => rw [hek] at r2; have := hprev p r2; omega
    rw [hke] at r2 r3 r5
    rw [r3] at hmk
    simp only [Option.some.injEq] at hmk
    subst hmk
    have hM1 := hM.relim (Nat.le_refl ma.next)
    have hT1 : TRel (φ.at ma.next) ν n T tmps := hs.tr.sub (at_sub φ _)
    have heop : eop E T ma e.o.op = eop E e.T ma e.o.op := eop_congr ma _ hops
    have hres := eop_sound hS hM1 (a := ⟨tmps, ds⟩) hT1 e.o
    rw [heop] at hres
    have hnd : ∀ c, e.o.op ≠ .defer c := by
      intro c hc
      rw [hc] at r4
      rw [callEnd_defer (T := e.T) (c := c) (show eop E e.T ma (.defer c) = opDefer E e.T c from rfl)] at r4
      cases r4
    obtain ⟨φ2, x, w1, h1, h2, h3, h4, h5⟩ := callEnd_sound (fn := fn) (is := is) (K := K) (kd := kd) (ro := ro) (X := X) hk hih ho hw (.inr hnd) hM1 hres r4
    rw [finish_eq ho] at h1
    have hll : φ.lim ≤ ma.next := hM.lim
    have hM3 := (h3.relim (l := φ.lim) (by omega)).grow r6
    have hsub2 : Sub φ (φ2.at φ.lim) := ⟨fun id L q => h2 id L q, h2.val⟩
    have hx : Ext φ (φ2.at φ.lim) := ⟨hsub2.sub, fun id hid => h2.old id (Nat.lt_of_lt_of_le hid hll), rfl, h2.val⟩
    refine ⟨k + 1, _, φ2.at φ.lim, _, w1, h1, hsub, hcl, ?_, ⟨mb, r5, hM3⟩, (hs.tr.mono hx).putV ht.ent.dst (h5.sub (at_sub φ2 _)), hval, ?_, hs.ext.trans hx, hs.below.trans h4⟩
    · intro p i hpi
      refine ⟨fun q => ?_, fun q => ?_⟩
      · rcases addD_true.1 q with q | q
        · have := (hs.effk p i hpi).1 q; omega
        · subst q
          cases p with
          | zero => omega
          | succ p => have := hprev p hpi; omega
      · rcases Nat.lt_or_ge p k with q1 | q1
        · exact addD_true.2 (.inl ((hs.effk p i hpi).2 q1))
        · have : p = k := by omega
          subst this
          rw [r2] at hpi
          simp only [Option.some.injEq] at hpi
          exact addD_true.2 (.inr hpi.symm)
    · intro e' he' id' b' hk' hD'
      have h0 := hfree e' he' id' b' hk' hD'
      obtain ⟨u1, u2⟩ := r9 e' he' id' b' hk'
      show φ2 id' = none
      rcases Nat.lt_or_ge e.k e'.k with q | q
      · cases hq : φ2 id' with
        | none => rfl
        | some L => have := h3.dom id' L hq; have := u2 q; omega
      · rw [h2.old id' (u1 q)]
        exact h0
end
end Go.Ev
namespace Go.Ev
open Go Go.RowKit
theorem first_undone {D : Nat → Bool} : ∀ {l : List Nat} {i : Nat}, i ∈ l → D i = false → ∃ pre j post, l = pre ++ j :: post ∧ D j = false ∧ ∀ q ∈ post, D q = true := by
  intro l
  induction l with
  | nil => intro i h; cases h
  | cons a l ih =>
    intro i hi hd
    by_cases h : ∃ q ∈ l, D q = false
    · obtain ⟨q, h1, h2⟩ := h
      obtain ⟨pre, j, post, e, h3, h4⟩ := ih h1 h2
      exact ⟨a :: pre, j, post, by rw [e]; rfl, h3, h4⟩
    · have hall : ∀ q ∈ l, D q = true := by
        intro q hq
        cases e : D q with
        | true => rfl
        | false => exact absurd ⟨q, hq, e⟩ h
      cases hi with
      | head => exact ⟨[], a, l, rfl, hd, hall⟩
      | tail _ hi => rw [hall i hi] at hd; cases hd
theorem rem_mono (D : Nat → Bool) (i : Nat) : ∀ (l : List Nat), (l.filter (fun j => !(addD D i j))).length ≤ (l.filter (fun j => !(D j))).length := by
  intro l
  induction l with
  | nil => exact Nat.le_refl _
  | cons a l ih =>
    cases h : D a with
    | true =>
      have : addD D i a = true := addD_true.2 (.inl h)
      simp only [List.filter_cons, this, h, Bool.not_true, Bool.false_eq_true, if_false]
      exact ih
    | false =>
      simp only [List.filter_cons, h, Bool.not_false, if_true]
      split <;> simp only [List.length_cons] <;> omega
theorem rem_less {D : Nat → Bool} {i : Nat} (hd : D i = false) : ∀ {l : List Nat}, i ∈ l → (l.filter (fun j => !(addD D i j))).length + 1 ≤ (l.filter (fun j => !(D j))).length := by
  intro l
  induction l with
  | nil => intro h; cases h
  | cons a l ih =>
    intro h
    by_cases e : a = i
    · subst e
      have : addD D a a = true := addD_true.2 (.inr rfl)
      simp only [List.filter_cons, this, hd, Bool.not_true, Bool.not_false, Bool.false_eq_true, if_false, if_true, List.length_cons]
      have := rem_mono D a l
      omega
    · have hi : i ∈ l := by cases h with
        | head => exact absurd rfl e
        | tail _ h => exact h
      have := ih hi
      cases h : D a with
      | true =>
        have h2 : addD D i a = true := addD_true.2 (.inl h)
        simp only [List.filter_cons, h2, h, Bool.not_true, Bool.false_eq_true, if_false]
        exact this
      | false =>
        have h2 : addD D i a = false := addD_false.2 ⟨h, e⟩
        simp only [List.filter_cons, h2, h, Bool.not_false, if_true, List.length_cons]
        omega
section
variable {E : Env} {φ φ0 : Phi} {ν : Nat → Int} {B n : Nat} {w w0 : World} {ih : Run} {ops : Array Oper} {T0 TF T : Tr AV} {m0 mF : AMem} {log : List DEnt} {msF : List AMem} {kF k : Nat} {masks : List Nat} {D : Nat → Bool} {tmps : Array Value}
def Dof (listed : Array Bool) : Nat → Bool := fun i => listed.getD i false
theorem Dof_set {listed : Array Bool} {i : Nat} (hi : i < listed.size) : Dof (listed.setIfInBounds i true) = addD (Dof listed) i := by
  funext j
  unfold Dof
  by_cases e : j = i
  · subst e
    rw [addD_true.2 (.inr rfl)]
    simp [hi]
  · rw [getD_set_ne false (fun q => e q.symm)]
    show listed.getD j false = (listed.getD j false || Nat.beq j i)
    have : Nat.beq j i = false := by cases h : Nat.beq j i with
      | false => rfl
      | true => exact absurd (nat_beq h) e
    rw [this, Bool.or_false]
theorem draw_go (hν : Bounded E ν) (hS : SpecOk E ν) (hk : RunK ih) (hih : RunOk E ν ih) (hp : Plan E ih ops n T0 m0 log TF mF msF kF masks) (hl0 : φ0.lim ≤ m0.next)
    {fn : Nat} {K : List Item} {ds : List Deferred} {kd : CallKind} {ro : Option Nat} {X : List Frame} :
    ∀ (fuel t : Nat) (listed : Array Bool) (k : Nat) (T : Tr AV) (φ : Phi) (tmps : Array Value) (w : World), listed.size = ops.size → ((List.range ops.size).filter (fun j => !(Dof listed j))).length ≤ fuel →
      St E ν B n ops T0 log (mF :: msF).reverse masks φ0 w0 (Dof listed) k T φ tmps w →
      ∃ D' k' T' φ' tmps' w', Steps E.P (lone ⟨fn, tmps, .inRegion ops (Region.linearise.go .any ops fuel t listed []) :: K, ds, .run, kd, ro⟩ X w) (lone ⟨fn, tmps', .inRegion ops [] :: K, ds, .run, kd, ro⟩ X w') ∧
        St E ν B n ops T0 log (mF :: msF).reverse masks φ0 w0 D' k' T' φ' tmps' w' ∧ ∀ i, i < ops.size → D' i = true := by
  intro fuel
  induction fuel with
  | zero =>
    intro t listed k T φ tmps w hsz hrem hs
    refine ⟨_, k, T, φ, tmps, w, ?_, hs, fun i hi => ?_⟩
    · simp only [Region.linearise.go, List.reverse_nil]
      exact Steps.refl _ _
    · cases h : Dof listed i with
      | true => rfl
      | false =>
        exfalso
        have hm : i ∈ (List.range ops.size).filter (fun j => !(Dof listed j)) := by
          rw [List.mem_filter]; exact ⟨List.mem_range.2 hi, by rw [h]; rfl⟩
        have := List.length_pos_of_mem hm
        omega
  | succ fuel ih' =>
    intro t listed k T φ tmps w hsz hrem hs
    simp only [Region.linearise.go]
    have hfold : (List.range ops.size).filter (fun i => !listed.getD i true && ((ops[i]?).map (·.after.all fun e => !Region.binds .any e || listed.getD e.on false)).getD false) = Region.ready .any ops listed := rfl
    rw [hfold]
    cases hr : (Region.ready .any ops listed)[t % (Region.ready .any ops listed).length]? with
    | none =>
      have hnil : Region.ready .any ops listed = [] := by
        cases hr' : Region.ready .any ops listed with
        | nil => rfl
        | cons x xs =>
          rw [hr'] at hr
          have hlt : t % (x :: xs).length < (x :: xs).length := Nat.mod_lt _ (by simp)
          rw [List.getElem?_eq_getElem hlt] at hr
          cases hr
      refine ⟨_, k, T, φ, tmps, w, ?_, hs, fun i hi => ?_⟩
      · simp only [List.reverse_nil]
        exact Steps.refl _ _
      · cases h : Dof listed i with
        | true => rfl
        | false =>
          exfalso
          obtain ⟨pre, j, post, e, h3, h4⟩ := first_undone (hp.all i hi) h
          have htop := hp.top
          rw [e] at htop
          obtain ⟨_, _, u3, u4, _⟩ := htop.split
          have hj := List.mem_range.1 u3
          have : j ∈ Region.ready .any ops listed := by
            rw [mem_ready]
            refine ⟨?_, ops[j], Array.getElem?_eq_getElem hj, fun ed he hb => ?_⟩
            · unfold Dof at h3
              have hj' : j < listed.size := by omega
              simpa [Array.getD, hj'] using h3
            · have hbit := (before_spec (Array.getElem?_eq_getElem hj) 0).2 ed he hb
              rw [← hp.meq] at hbit
              exact h4 ed.on (u4 ed.on (List.mem_range.2 (bit_lt hp.lt hbit)) hbit)
          rw [hnil] at this
          cases this
    | some i =>
      simp only
      rw [linearise_go_acc, List.reverse_singleton, List.singleton_append]
      have hi := List.mem_of_getElem? hr
      obtain ⟨h0, o, ho, hedge⟩ := mem_ready.1 hi
      have hlt : i < ops.size := (Array.getElem?_eq_some_iff.1 ho).1
      have hn : Dof listed i = false := by
        unfold Dof
        have hi' : i < listed.size := by omega
        simpa [Array.getD, hi'] using h0
      obtain ⟨e, rfl, ht⟩ := turn_of hp hs.sub hs.closed hlt hn (fun o' ho' ed he hb => by
        rw [ho] at ho'
        simp only [Option.some.injEq] at ho'
        subst ho'
        exact hedge ed he hb)
      obtain ⟨k1, T1, φ1, tmps1, w1, hst, hs1⟩ := draw_one hν hS hk hih hp hl0 hs ht hn (fn := fn) (is := Region.linearise.go .any ops fuel (t / (Region.ready .any ops listed).length) (listed.setIfInBounds e.i true) []) (K := K) (ds := ds) (kd := kd) (ro := ro) (X := X)
      rw [← Dof_set (by omega)] at hs1
      obtain ⟨D', k', T', φ', tmps', w', q1, q2, q3⟩ := ih' (t / (Region.ready .any ops listed).length) (listed.setIfInBounds e.i true) k1 T1 φ1 tmps1 w1 (by simp [hsz]) (by
        rw [Dof_set (by omega)]
        have := rem_less hn (List.mem_range.2 hlt)
        omega) hs1
      exact ⟨D', k', T', φ', tmps', w', hst.trans q1, q2, q3⟩
theorem plan_of (hS : SpecK E) (hk : RunK ih) {m : AMem} {T1 : Tr AV} {m1 : AMem} (h : drawA E ih ops n T0 m = some (T1, m1)) : ∃ log ms k masks, Plan E ih ops n T0 m log T1 m1 ms k masks := by
  unfold drawA at h
  split at h
  · cases h
  rename_i ord masks hst
  split at h
  · cases h
  rename_i s hw
  split at h
  · rename_i hc ha
    simp only [Option.some.injEq, Prod.mk.injEq] at h
    obtain ⟨rfl, rfl⟩ := h
    unfold staticD at hst
    simp only at hst
    split at hst
    · rename_i h1 h2 h3
      simp only [Option.some.injEq, Prod.mk.injEq] at hst
      obtain ⟨rfl, rfl⟩ := hst
      obtain ⟨⟨ms, q1, q2⟩, q3⟩ := walkD_walk (E := E) (ih := ih) (ops := ops) (n := n) (T0 := T0) (m0 := m) (ms := []) (s := ⟨T0, m, [m], 0, []⟩) .nil rfl hw
      obtain ⟨r1, r2⟩ := topoD_sound h1 trivial
      simp only [List.map_nil, List.append_nil] at q3 r1 r2
      rw [q2] at ha
      refine ⟨s.log, ms, s.k, _, q1, q1.book hS hk, by rw [q3]; exact r1, fun i hi => ?_, h2, rfl, h3, hc, ha⟩
      rw [q3]
      refine r2 i (List.mem_range.2 hi) ?_
      rw [List.length_range, Nat.testBit_two_pow_sub_one]
      simpa using hi
    · cases hst
  · cases h
theorem draw_ok (hν : Bounded E ν) (hS : SpecOk E ν) (hSK : SpecK E) (hM : E.P.follows .mixedOrders = true) (hk : RunK ih) (hih : RunOk E ν ih) : DrawOk E ν ih := by
  intro φ B b m w fn n T tmps ds' kd ro' K X id ops T1 m1 t hm hT hd hcont
  obtain ⟨log, ms, kF, masks, hp⟩ := plan_of hSK hk hd
  have hstep : Go.step E.P (lone ⟨fn, tmps, .code (.region id ops true) :: K, ds', .run, kd, ro'⟩ X w) =
      .next (lone ⟨fn, tmps, .inRegion ops (Region.schedule (E.P.follows .mixedOrders) ops (w.tape w.drawn (.order fn id))) :: K, ds', .run, kd, ro'⟩ X { w with drawn := w.drawn + 1 }) :=
    step_lone_go (by simp [stepG, stepG.exec, choose, Sem.run, Question.forced, Question.cut])
  have hsch : Region.schedule (E.P.follows .mixedOrders) ops (w.tape w.drawn (.order fn id)) = Region.linearise.go .any ops ops.size (w.tape w.drawn (.order fn id)) (Array.replicate ops.size false) [] := by
    rw [hM]; simp [Region.schedule, Region.linearise]
  rw [hsch] at hstep
  have hB0 : Below B w { w with drawn := w.drawn + 1 } := ⟨rfl, rfl, rfl, Nat.le_refl _, fun _ _ => rfl⟩
  have hD0 : ∀ i, Dof (Array.replicate ops.size false) i = false := by
    intro i
    unfold Dof
    rw [Array.getD_eq_getD_getElem?, Array.getElem?_replicate]
    split <;> rfl
  have hbook := hp.book
  have hfirst : ∃ mk, (m1 :: ms).reverse[0]? = some mk ∧ MRel E φ ν B mk { w with drawn := w.drawn + 1 } := by
    rcases hbook.first with q | ⟨ma, q1, q2⟩
    · exact ⟨m, q, hm.drew⟩
    · exact ⟨ma, q1, hm.drew.grow q2⟩
  have hs : St E ν B n ops T log (m1 :: ms).reverse masks φ w (Dof (Array.replicate ops.size false)) 0 T φ tmps { w with drawn := w.drawn + 1 } := by
    refine ⟨fun i h => (by rw [hD0] at h; cases h), fun i h => (by rw [hD0] at h; cases h), fun p i _ => ?_, hfirst, hT, fun t => ?_, fun e he id' b' hk' _ => ?_, Ext.refl φ, hB0⟩
    · rw [hD0]; exact ⟨fun h => (by cases h), fun h => (by omega)⟩
    · have : ∀ (l : List DEnt), valIn (Dof (Array.replicate ops.size false)) T l t = tget T t := by
        intro l
        induction l with
        | nil => rfl
        | cons e l ihl =>
          show (if _ ∧ _ then e.v else valIn _ T l t) = _
          rw [if_neg (fun q => by have := q.1; rw [hD0] at this; cases this), ihl]
      rw [this]
    · have := (hbook.lays e he id' b' hk').1
      cases hq : φ id' with
      | none => rfl
      | some L => have := hm.dom id' L hq; omega
  obtain ⟨D', k', T', φ', tmps', w', q1, q2, q3⟩ := draw_go hν hS hk hih hp hm.lim (fn := fn) (K := K) (ds := ds') (kd := kd) (ro := ro') (X := X) ops.size (w.tape w.drawn (.order fn id)) _ 0 T φ tmps _ (by simp) (by
    have := List.length_filter_le (fun j => !(Dof (Array.replicate ops.size false) j)) (List.range ops.size)
    simpa using this) hs
  refine Good.back ((Steps.one hstep).trans (q1.trans (Steps.one step_reg_end))) q2.ext q2.below ?_
  refine hcont φ' w' tmps' q2.ext q2.below ?_ ⟨q2.tr.1, fun t => ?_⟩
  · obtain ⟨mk, h1, h2⟩ := q2.mem
    have hlen := hbook.len
    have hef := hbook.effs
    have hkl := (List.getElem?_eq_some_iff.1 h1).1
    simp only [List.length_reverse, List.length_cons] at hkl
    have hk' : k' = ms.length := by
      rcases Nat.lt_or_ge k' ms.length with q | q
      · exfalso
        have hlt : k' < (effsOf log).reverse.length := by rw [List.length_reverse]; omega
        have hg := List.getElem?_eq_getElem hlt
        obtain ⟨e, he, _, hei⟩ := effs_mem (List.mem_reverse.1 (List.mem_of_getElem? hg))
        obtain ⟨pre, post, hl⟩ := List.append_of_mem he
        have ho := (hp.walk.ent pre e post hl).1.op
        have := (q2.effk k' _ hg).1 (q3 _ (by rw [← hei]; exact (Array.getElem?_eq_some_iff.1 ho).1))
        omega
      · omega
    rw [hk', rev_get, if_neg (by omega), if_pos rfl] at h1
    simp only [Option.some.injEq] at h1
    subst h1
    exact h2
  · have hv := q2.val t
    rw [valIn_all (fun e he _ => ?_), ← hp.walk.val] at hv
    · rw [← hv]; exact q2.tr.2 t
    · obtain ⟨pre, post, hl⟩ := List.append_of_mem he
      have ho := (hp.walk.ent pre e post hl).1.op
      exact q3 _ (Array.getElem?_eq_some_iff.1 ho).1
/-- The machine tells the truth. -/
theorem run_sound (hν : Bounded E ν) (hS : SpecOk E ν) (hSK : SpecK E) (hM : E.P.follows .mixedOrders = true) (n : Nat) : RunOk E ν (run E n) :=
  run_ok hν hS (fun n h => join_ok (run_k hSK n) h) (fun n h => draw_ok hν hS hSK hM (run_k hSK n) h) n
end
end Go.Ev
