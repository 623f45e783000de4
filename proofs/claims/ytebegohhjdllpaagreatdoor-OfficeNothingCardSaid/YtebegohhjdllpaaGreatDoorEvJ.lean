/-
  Contracts by tables, loops over a map, rows that came in.
-/
import Derived.Laws.Externs
import Derived.Lib.MakeNoZero
import Derived.OpenShut
import GoSem.ClaimFn
import Derived.Test.YtebegohhjdllpaaGreatDoorEvI
import Derived.Test.YtebegohhjdllpaaGreatDoorEvA
set_option linter.unusedVariables false
set_option linter.unusedSimpArgs false
namespace Go.Ev
open Go Go.RowKit
/-! values without memory -/
mutual
def plainV : AV → Bool
  | .any | .one | .bool _ | .int _ _ | .sym _ | .str _ | .nilPtr | .nilSlice | .nilMap | .nilIface | .nilFn => true
  | .agg l => plainL l
  | .tup l => plainL l
  | .iface _ v => plainV v
  | _ => false
def plainL : List AV → Bool
  | [] => true
  | a :: l => match plainV a with
    | true => plainL l
    | false => false
end
theorem plainL_get : ∀ {l : List AV}, plainL l = true → ∀ {i : Nat} {a : AV}, l[i]? = some a → plainV a = true := by
  intro l
  induction l with
  | nil => intro _ i a h; simp at h
  | cons b l ih =>
    intro h i a ha
    unfold plainL at h
    split at h
    · rename_i hb
      cases i with
      | zero => simp at ha; subst ha; exact hb
      | succ i => exact ih h (by simpa using ha)
    · cases h
section
variable {E : Env} {φ φ' : Phi} {ν : Nat → Int} {B : Nat} {w w' : World} {m m' : AMem}
theorem plain_rel {a : AV} {c : Value} (h : VRel φ ν a c) : plainV a = true → VRel φ' ν a c := by
  induction h with
  | any v => intro _; exact .any v
  | bool b => intro _; exact .bool b
  | int k n => intro _; exact .int k n
  | sym i => intro _; exact .sym i
  | str s => intro _; exact .str s
  | nilPtr => intro _; exact .nilPtr
  | nilSlice => intro _; exact .nilSlice
  | nilMap => intro _; exact .nilMap
  | nilFn => intro _; exact .nilFn
  | nilIface => intro _; exact .nilIface
  | one v h => intro _; exact .one v h
  | iface _ ih => intro h; exact .iface (ih h)
  | agg h _ ih => intro hp; exact .agg h (fun i a c ha hc => ih i a c ha hc (plainL_get hp ha))
  | tup h _ ih => intro hp; exact .tup h (fun i a c ha hc => ih i a c ha hc (plainL_get hp ha))
  | _ => intro h; cases h
theorem plain_lrel {l : List AV} {cs : List Value} (hp : plainL l = true) (h : LRel φ ν l cs) : LRel φ' ν l cs :=
  ⟨h.1, fun i a c ha hc => plain_rel (h.2 i a c ha hc) (plainL_get hp ha)⟩
theorem MRel.under (h : MRel E φ ν B m w) (hb : Below w.heap.size w w') : MRel E φ ν B m w' := by
  refine ⟨h.toGRel, fun id b L hm hL => ?_, h.dom, fun id L hL => ?_, h.inj, h.own, ?_, h.top, h.lim, h.vals, h.bas, fun k hk => by rw [hb.block _ (by have := h.base; have := h.bas; omega)]; exact h.old k hk⟩
  · obtain ⟨o, h1, h2⟩ := h.blk id b L hm hL
    exact ⟨o, by rw [hb.block _ (h.lt id L hL)]; exact h1, h2⟩
  · exact Nat.lt_of_lt_of_le (h.lt id L hL) hb.size
  · exact Nat.le_trans h.base hb.size
end
noncomputable section
/-- The memory as a call begins: nothing is known of it. -/
def startOf (G : Nat) : AMem := ⟨.nil, G, 0, false⟩
def findT (args : List AV) : List (List AV × AV) → Option AV
  | [] => none
  | (k, r) :: l => match sameL k args with
    | true => some r
    | false => findT args l
def memoH (tab : List (List AV × AV)) : Handler := fun args m => match findT args tab with
  | some r => some (r, m)
  | none => none
end
section
variable {E : Env} {φ φ' : Phi} {ν : Nat → Int} {B : Nat} {w w' : World} {m m' : AMem}
/-- Where the variables lie. -/
def phiG (G : Nat) (v : Nat → Value) : Phi := ⟨fun id => if id < G then some ⟨id, 0, 0⟩ else none, 0, v⟩
def phi0 : Phi := ⟨fun _ => none, 0, fun _ => .nilFunc⟩
theorem phiG_some {G : Nat} {v : Nat → Value} {id : Nat} {L : Loc} (h : phiG G v id = some L) : id < G ∧ L = ⟨id, 0, 0⟩ := by
  have q : (if id < G then some (⟨id, 0, 0⟩ : Loc) else none) = some L := h
  by_cases e : id < G
  · rw [if_pos e] at q; simp only [Option.some.injEq] at q; exact ⟨e, q.symm⟩
  · rw [if_neg e] at q; cases q
theorem start_rel (hG : E.G ≤ w.heap.size) (hb : E.base ≤ w.heap.size) (ho : ∀ k, k < E.base → w.heap[k]? = E.old k) : MRel E (phiG E.G E.val) ν w.heap.size (startOf E.G) w := by
  have none' : ∀ id b, (startOf E.G).get id = some b → False := by
    intro id b h
    unfold startOf AMem.get at h
    simp only at h
    rw [Tr.get_nil] at h
    cases h
  refine ⟨⟨fun g hg => ⟨⟨g, 0, 0⟩, by show (if g < E.G then _ else none) = _; rw [if_pos hg], rfl, rfl⟩⟩, fun id b L h => (none' id b h).elim, fun id L hL => (phiG_some hL).1, fun id L hL => ?_,
    fun i j y z L1 L2 hy => (none' i y hy).elim, fun id b L h => (none' id b h).elim, Nat.le_refl _, fun id b h => (none' id b h).elim, Nat.zero_le _, rfl, hb, ho⟩
  obtain ⟨h1, h2⟩ := phiG_some hL
  rw [h2]
  exact Nat.lt_of_lt_of_le h1 hG
/-- What a table says of one call. -/
def EntryOk (P : Program) (G : Nat) (ν : Nat → Int) (f : Nat) (x : List AV × AV) : Prop :=
  plainL x.1 = true ∧ plainV x.2 = true ∧ ∀ w cargs, G ≤ w.heap.size → LRel phi0 ν x.1 cargs →
    Calls P f cargs.toArray w fun e w' => ∃ y, e = .returned y ∧ Below w.heap.size w w' ∧ VRel phi0 ν x.2 y
/-- The function is entered by 'callFunc'. -/
def enters (P : Program) (f : Nat) : Bool := match P.funcs[f]? with
  | some fn => match fn.body with
    | some _ => if fn.name = "runtime.NumGoroutine" then false else true
    | none => false
  | none => false
theorem enters_run {P : Program} {f : Nat} (h : enters P f = true) (cargs : Array Value) (w : World) : (callFunc f cargs).run P w = .ok (.enter f cargs) w := by
  unfold enters at h
  split at h
  · rename_i fn hf
    split at h
    · rename_i c hb
      split at h
      · cases h
      · rename_i hn
        simp [callFunc, hf, hn, hb]
    · cases h
  · cases h
theorem findT_mem {args : List AV} {r : AV} : ∀ {tab : List (List AV × AV)}, findT args tab = some r → (args, r) ∈ tab := by
  intro tab
  induction tab with
  | nil => intro h; cases h
  | cons x tab ih =>
    obtain ⟨k, v⟩ := x
    intro h
    unfold findT at h
    split at h
    · rename_i hs
      have := sameL_eq _ _ hs
      subst this
      simp only [Option.some.injEq] at h
      subst h
      exact .head _
    · exact .tail _ (ih h)
/-- What a handler is to be. -/
def HandOk (E : Env) (ν : Nat → Int) (f : Nat) (h : Handler) : Prop :=
  ∀ φ B m w args cargs v m', MRel E φ ν B m w → LRel φ ν args cargs → h args m = some (v, m') → ValOk E.P w ((callFunc f cargs.toArray).run E.P w) (After E φ ν B w v m')
theorem MRel.sizeG (h : MRel E φ ν B m w) : E.G ≤ w.heap.size := by
  rcases Nat.eq_zero_or_pos E.G with q | q
  · omega
  · obtain ⟨L, h1, h2, _⟩ := h.glob (E.G - 1) (by omega)
    have := h.lt _ L h1
    omega
/-- A call that leaves the old memory as it was, and gives back a value of which this is known. -/
theorem hand_of {f : Nat} {args : List AV} {cargs : List Value} {v : AV} (he : enters E.P f = true) (hm : MRel E φ ν B m w) {Q : Value → Prop} (hc : Calls E.P f cargs.toArray w fun e w' => ∃ y, e = .returned y ∧ Below w.heap.size w w' ∧ Q y)
    (hQ : ∀ y, Q y → VRel φ ν v y) : ValOk E.P w ((callFunc f cargs.toArray).run E.P w) (After E φ ν B w v m) := by
  refine .inr ⟨f, cargs.toArray, enters_run he _ _, ?_⟩
  refine Calls.mono hc fun e w' hq => ?_
  obtain ⟨y, h1, h2, h3⟩ := hq
  exact ⟨y, h1, φ, Ext.refl φ, hm.under h2, h2.mono hm.base, hQ y h3⟩
theorem memo_ok {f : Nat} {tab : List (List AV × AV)} (he : enters E.P f = true) (h : ∀ x ∈ tab, EntryOk E.P E.G ν f x) : HandOk E ν f (memoH tab) := by
  intro φ B m w args cargs v m' hm hl hv
  unfold memoH at hv
  split at hv
  · rename_i r hf
    simp only [Option.some.injEq, Prod.mk.injEq] at hv
    obtain ⟨rfl, rfl⟩ := hv
    obtain ⟨h1, h2, h3⟩ := h _ (findT_mem hf)
    exact hand_of (args := args) he hm (h3 w cargs hm.sizeG (plain_lrel h1 hl)) (fun y hy => plain_rel hy h2)
  · cases hv
theorem memo_k {tab : List (List AV × AV)} {args : List AV} {v : AV} (h : memoH tab args m = some (v, m')) : Kept m m' := by
  unfold memoH at h
  split at h
  · simp only [Option.some.injEq, Prod.mk.injEq] at h
    obtain ⟨_, rfl⟩ := h
    exact Kept.refl _
  · cases h
end
end Go.Ev
namespace Go.Ev
open Go Go.RowKit
/-- Which function's loop heads, which temporaries live there, which blocks, of which entries it is to be known whether they came. -/
structure Head where
  fn : Nat
  ts : List Nat
  ids : List Nat
  must : List Nat
noncomputable section
def forceV {β : Type} (a : AV) (f : AV → β) : β := match a with
  | .int .i64 n => normI n fun n => f (.int .i64 n)
  | .ptr i o => force i fun i => force o fun o => f (.ptr i o)
  | a => f a
def forceL {β : Type} (l : List AV) (f : List AV → β) : β := match l with
  | [] => f []
  | a :: l => forceV a fun a => forceL l fun l => f (a :: l)
def forceN {β : Type} (l : List Nat) (f : List Nat → β) : β := match l with
  | [] => f []
  | a :: l => force a fun a => forceN l fun l => f (a :: l)
def allLt (n : Nat) : List Nat → Bool
  | [] => true
  | a :: l => match Nat.blt a n with
    | true => allLt n l
    | false => false
def forceB {β : Type} (must : List Nat) (b : ABlk) (f : Option ABlk → β) : β := match b with
  | .cells cs ty ext ro lo hi => forceL cs fun cs => f (some (.cells cs ty ext ro lo hi))
  | .map es clock => f (some (.map es clock))
  | .miter (some id) since [] last => force id fun id => force since fun since => force last fun last => match allLt since must with
    | true => f (some (.miterW id since last none must [] since))
    | false => f none
  | .miterW id since last _ mu go k => force id fun id => force since fun since => force last fun last => forceN mu fun mu => forceN go fun go => force k fun k => f (some (.miterW id since last none mu go k))
  | _ => f none
def anyT (n : Nat) : Tr AV := Nat.rec (motive := fun _ => Tr AV) .nil (fun i T => tput T i .any) n
def normT {β : Type} (n : Nat) (T : Tr AV) (ts : List Nat) (f : Tr AV → β) : β := match ts with
  | [] => f (anyT n)
  | t :: ts => match Nat.blt t n with
    | true => forceV (tget T t) fun v => normT n T ts fun T' => f (tput T' t v)
    | false => normT n T ts f
def normM {β : Type} (must : List Nat) (m : AMem) (ids : List Nat) (f : Tr ABlk → β) : β := match ids with
  | [] => f .nil
  | id :: ids => match m.get id with
    | some b => forceB must b fun b => normM must m ids fun t => f (t.put (toPth id) b)
    | none => normM must m ids f
def headB : List AItem → Bool
  | .inLoop _ :: _ => true
  | .code (.loop _) :: _ => true
  | _ => false
def atHead (c : Head) (fn : Nat) (todo : List AItem) : Bool := match Nat.beq fn c.fn with
  | true => headB todo
  | false => false
/-- The run goes on from the state's one form. -/
def atB (c : Head) (ih : Run) : Run := fun fr cs m => match fr with
  | ⟨fn, n, T, todo, ds, md, kd, ro⟩ => match atHead c fn todo with
    | true => match m with
      | ⟨blk, next, wm, bad⟩ => force next fun next => force wm fun wm => normT n T c.ts fun T' => normM c.must ⟨blk, next, wm, bad⟩ c.ids fun blk' => ih ⟨fn, n, T', todo, ds, md, kd, ro⟩ cs ⟨blk', next, wm, true⟩
    | false => ih ⟨fn, n, T, todo, ds, md, kd, ro⟩ cs m
variable (E : Env)
def runB (c : Head) (n : Nat) : Run := Nat.rec (motive := fun _ => Run) (fun _ _ _ => .fail) (fun _ ih => step E (atB c ih)) n
def callB (c : Head) (n f : Nat) (args : List AV) (m : AMem) : Tree := match enterA E f args .normal with
  | some fr => runB E c n fr [] m
  | none => .fail
end
section
variable {E : Env} {φ φ' : Phi} {ν : Nat → Int} {B n : Nat} {w w' : World} {m m' : AMem} {T : Tr AV} {ih : Run} {c : Head}
theorem forceV_eq {β : Type} (a : AV) (f : AV → β) : forceV a f = f a := by
  unfold forceV
  split
  · rename_i n; cases n <;> simp only [normI, force_eq]
  · simp only [force_eq]
  · rfl
theorem forceL_eq {β : Type} : ∀ (l : List AV) (f : List AV → β), forceL l f = f l := by
  intro l
  induction l with
  | nil => intro f; rfl
  | cons a l ih => intro f; unfold forceL; rw [forceV_eq, ih]
theorem forceN_eq {β : Type} : ∀ (l : List Nat) (f : List Nat → β), forceN l f = f l := by
  intro l
  induction l with
  | nil => intro f; rfl
  | cons a l ih => intro f; unfold forceN; rw [force_eq, ih]
theorem allLt_spec {n : Nat} : ∀ {l : List Nat}, allLt n l = true → ∀ b ∈ l, b < n := by
  intro l
  induction l with
  | nil => intro _ b h; cases h
  | cons a l ih =>
    intro h b hb
    unfold allLt at h
    split at h
    · rename_i ha
      cases hb with
      | head => exact nat_blt ha
      | tail _ hb => exact ih h b hb
    · cases h
/-- A block's one form says no more than the block. -/
theorem forceB_ok (must : List Nat) (b : ABlk) : ∃ b', (∀ {β : Type} (f : Option ABlk → β), forceB must b f = f b') ∧ ∀ x, b' = some x → (wr x = true → wr b = true) ∧ ∀ (L : Loc) o, BObj φ ν b L o → BObj φ ν x L o := by
  cases b with
  | cells cs ty ext ro lo hi => exact ⟨some (.cells cs ty ext ro lo hi), fun f => by simp only [forceB, forceL_eq], fun x hx => by cases hx; exact ⟨id, fun L o h => h⟩⟩
  | map es clock => exact ⟨some (.map es clock), fun f => rfl, fun x hx => by cases hx; exact ⟨id, fun L o h => h⟩⟩
  | miter mo since seen last =>
    cases mo with
    | none => exact ⟨none, fun f => rfl, fun x hx => by cases hx⟩
    | some id =>
      cases seen with
      | cons a l => exact ⟨none, fun f => rfl, fun x hx => by cases hx⟩
      | nil =>
        cases hlt : allLt since must with
        | false => exact ⟨none, fun f => by simp only [forceB, force_eq, hlt], fun x hx => by cases hx⟩
        | true =>
        refine ⟨some (.miterW id since last none must [] since), fun f => by simp only [forceB, force_eq, hlt], fun x hx => ?_⟩
        cases hx
        refine ⟨fun h => h, fun L o h => ?_⟩
        cases h with
        | miterS h0 hL => exact .miterW (seen := []) h0 hL List.nodup_nil (fun b hb => by cases hb) (by simp) (fun b hb => ⟨(fun hb => by cases hb), allLt_spec hlt b hb⟩) (fun b hb => by cases hb) (fun c hc => by cases hc)
  | miterW id since last cur mu go k =>
    refine ⟨some (.miterW id since last none mu go k), fun f => by simp only [forceB, force_eq, forceN_eq], fun x hx => ?_⟩
    cases hx
    refine ⟨fun h => h, fun L o h => ?_⟩
    cases h with
    | miterW h0 hL a b c d e f => exact .miterW h0 hL a b c d e (fun c hc => by cases hc)
  | siter s pos => exact ⟨none, fun f => rfl, fun x hx => by cases hx⟩
  | xrow cs sz lo => exact ⟨none, fun f => rfl, fun x hx => by cases hx⟩
  | loop _ _ _ _ _ _ _ _ _ => exact ⟨none, fun f => rfl, fun x hx => by cases hx⟩
  | deferred _ => exact ⟨none, fun f => rfl, fun x hx => by cases hx⟩
theorem tget_anyT (n t : Nat) : tget (anyT n) t = if t < n then .any else undefA := by
  induction n with
  | zero => show tget .nil t = _; unfold tget; rw [Tr.get_nil]; simp
  | succ n ih =>
    show tget (tput (anyT n) n .any) t = _
    rw [tget_tput, ih]
    by_cases e : n = t
    · subst e; simp
    · rw [if_neg e]
      by_cases h : t < n
      · rw [if_pos h, if_pos (by omega)]
      · rw [if_neg h, if_neg (by omega)]
theorem normT_ok {tmps : Array Value} (h : TRel φ ν n T tmps) : ∀ (ts : List Nat), ∃ T', (∀ {β : Type} (f : Tr AV → β), normT n T ts f = f T') ∧ TRel φ ν n T' tmps := by
  intro ts
  induction ts with
  | nil =>
    refine ⟨anyT n, fun f => rfl, h.1, fun t => ?_⟩
    rw [tget_anyT]
    by_cases e : t < n
    · rw [if_pos e]; exact .any _
    · rw [if_neg e, Array.getD_eq_getD_getElem?, Array.getElem?_eq_none (by rw [h.1]; omega)]
      exact undef_rel
  | cons t ts ih =>
    obtain ⟨T', h1, h2⟩ := ih
    cases hb : Nat.blt t n with
    | true =>
      refine ⟨tput T' t (tget T t), fun f => by unfold normT; rw [hb]; simp only; rw [forceV_eq, h1], h2.1, fun j => ?_⟩
      rw [tget_tput]
      by_cases e : t = j
      · subst e; rw [if_pos rfl]; exact h.2 t
      · rw [if_neg e]; exact h2.2 j
    | false => exact ⟨T', fun f => by unfold normT; rw [hb]; exact h1 f, h2⟩
theorem normM_ok (must : List Nat) (m : AMem) : ∀ (ids : List Nat), ∃ t : Tr ABlk, (∀ {β : Type} (f : Tr ABlk → β), normM must m ids f = f t) ∧
    ∀ j x, t.get (toPth j) = some x → ∃ b, m.get j = some b ∧ (wr x = true → wr b = true) ∧ ∀ (L : Loc) o, BObj φ ν b L o → BObj φ ν x L o := by
  intro ids
  induction ids with
  | nil => exact ⟨.nil, fun f => rfl, fun j x h => by rw [Tr.get_nil] at h; cases h⟩
  | cons id ids ih =>
    obtain ⟨t, h1, h2⟩ := ih
    cases hg : m.get id with
    | none => exact ⟨t, fun f => by unfold normM; rw [hg]; exact h1 f, h2⟩
    | some b =>
      obtain ⟨b', q1, q2⟩ := forceB_ok (φ := φ) (ν := ν) must b
      refine ⟨t.put (toPth id) b', fun f => by unfold normM; rw [hg]; simp only; rw [q1, h1], fun j x hx => ?_⟩
      rw [Tr.get_putN] at hx
      by_cases e : id = j
      · subst e
        rw [if_pos rfl] at hx
        exact ⟨b, hg, q2 x hx⟩
      · rw [if_neg e] at hx
        exact h2 j x hx
theorem MRel.thin (h : MRel E φ ν B m w) {t : Tr ABlk} {wm : Nat} {bad : Bool}
    (ht : ∀ j x, t.get (toPth j) = some x → ∃ b, m.get j = some b ∧ (wr x = true → wr b = true) ∧ ∀ (L : Loc) o, BObj φ ν b L o → BObj φ ν x L o) : MRel E φ ν B ⟨t, m.next, wm, bad⟩ w := by
  refine ⟨h.toGRel, fun id x L hx hL => ?_, h.dom, h.lt, fun i j x y L1 L2 hx hy => ?_, fun id x L hx hL hw => ?_, h.base, fun id x hx => ?_, h.lim, h.vals, h.bas, h.old⟩
  · obtain ⟨b, h1, _, h3⟩ := ht id x hx
    obtain ⟨o, q1, q2⟩ := h.blk id b L h1 hL
    exact ⟨o, q1, h3 L o q2⟩
  · obtain ⟨b, h1, _⟩ := ht i x hx
    obtain ⟨d, h2, _⟩ := ht j y hy
    exact h.inj i j b d L1 L2 h1 h2
  · obtain ⟨b, h1, h2, _⟩ := ht id x hx
    exact h.own id b L h1 hL (h2 hw)
  · obtain ⟨b, h1, _⟩ := ht id x hx
    exact h.top id b h1
theorem atB_ok (hi : RunOk E ν ih) : RunOk E ν (atB c ih) := by
  intro φ B b fr cs m w F C hF hcs hm hb
  obtain ⟨fn, n, T, todo, ds, md, kd, ro⟩ := fr
  unfold atB
  simp only
  split
  · obtain ⟨blk, next, wm, bad⟩ := m
    simp only [force_eq]
    obtain ⟨T', h1, h2⟩ := normT_ok hF.tmps c.ts
    obtain ⟨t, q1, q2⟩ := normM_ok (φ := φ) (ν := ν) c.must ⟨blk, next, wm, bad⟩ c.ids
    rw [h1, q1]
    exact hi φ B b _ cs _ w F C ⟨hF.fn, h2, hF.todo, hF.defers, hF.mode, hF.kind, hF.ro⟩ hcs (hm.thin q2) hb
  · exact hi φ B b _ cs m w F C hF hcs hm hb
theorem atB_k (hi : RunK ih) : RunK (atB c ih) := by
  intro fr cs m
  obtain ⟨fn, n, T, todo, ds, md, kd, ro⟩ := fr
  unfold atB
  simp only
  split
  · obtain ⟨blk, next, wm, bad⟩ := m
    simp only [force_eq]
    have hT : ∃ T', ∀ {β : Type} (f : Tr AV → β), normT n T c.ts f = f T' := by
      generalize c.ts = ts
      induction ts with
      | nil => exact ⟨_, fun f => rfl⟩
      | cons t ts ih =>
        obtain ⟨T', h⟩ := ih
        cases hb : Nat.blt t n with
        | true => exact ⟨tput T' t (tget T t), fun f => by unfold normT; rw [hb]; simp only; rw [forceV_eq, h]⟩
        | false => exact ⟨_, fun f => by unfold normT; rw [hb]; exact h f⟩
    obtain ⟨T', h1⟩ := hT
    obtain ⟨t, q1, _⟩ := normM_ok (φ := ⟨fun _ => none, 0, fun _ => .nilFunc⟩) (ν := fun _ => 0) c.must ⟨blk, next, wm, bad⟩ c.ids
    rw [h1, q1]
    refine KTree.back (m' := ⟨t, next, wm, true⟩) ⟨rfl, Nat.le_refl _, (fun h => by cases h), (fun h => by cases h)⟩ (hi _ _ _)
  · exact hi _ _ _
theorem runB_k (hS : SpecK E) : ∀ n, RunK (runB E c n) := by
  intro n
  induction n with
  | zero => intro fr cs m; exact k_fail
  | succ n ih => exact step_k hS (atB_k ih)
theorem runB_ok (hν : Bounded E ν) (hS : SpecOk E ν) (hSK : SpecK E) (hM : E.P.follows .mixedOrders = true) : ∀ n, RunOk E ν (runB E c n) := by
  intro n
  induction n with
  | zero => intro φ B b fr cs m w F C _ _ _ _; exact good_fail
  | succ n ih =>
    intro φ B b fr cs m w F C h hcs hm hb
    have h1 : RunOk E ν (atB c (runB E c n)) := atB_ok ih
    have h2 : RunK (atB c (runB E c n)) := atB_k (runB_k hSK n)
    exact stepF_sound h1 (join_ok h2 h1) (draw_ok hν hS hSK hM h2 h1) hν hS h hcs hm hb
end
/-! all ways return one value -/
mutual
noncomputable def allRet (r : AV) : Tree → Bool
  | .leaf (.ret v _) => sameV r v
  | .node ts => allRets r ts
  | _ => false
noncomputable def allRets (r : AV) : List Tree → Bool
  | [] => true
  | t :: ts => match allRet r t with
    | true => allRets r ts
    | false => false
end
mutual
theorem allRet_ok (r : AV) : ∀ (t : Tree), allRet r t = true → Full t ∧ ∀ l, LeafOf t l → ∃ m, l = .ret r m
  | .fail, h => by cases h
  | .leaf (.ret v m), h => ⟨.leaf _, (fun l hl => by cases hl; exact ⟨m, by rw [sameV_eq r v h]⟩)⟩
  | .leaf (.pan c m), h => by cases h
  | .node ts, h => ⟨.node (allRets_ok r ts h).1, (fun l hl => by cases hl with | node ht hl => exact (allRets_ok r ts h).2 _ ht l hl)⟩
theorem allRets_ok (r : AV) : ∀ (ts : List Tree), allRets r ts = true → (∀ t ∈ ts, Full t) ∧ ∀ t ∈ ts, ∀ l, LeafOf t l → ∃ m, l = .ret r m
  | [], h => ⟨(fun t ht => by cases ht), (fun t ht => by cases ht)⟩
  | t :: ts, h => by
    unfold allRets at h
    split at h
    · rename_i h1
      obtain ⟨a1, a2⟩ := allRet_ok r t h1
      obtain ⟨b1, b2⟩ := allRets_ok r ts h
      exact ⟨(fun t' ht' => by cases ht' with | head => exact a1 | tail _ ht' => exact b1 t' ht'), (fun t' ht' => by cases ht' with | head => exact a2 | tail _ ht' => exact b2 t' ht')⟩
    · cases h
end
section
variable {E : Env} {φ φ' : Phi} {ν : Nat → Int} {B n : Nat} {w w' : World} {m m' : AMem} {ih : Run} {c : Head}
theorem ret_calls (hrun : RunOk E ν ih) {f : Nat} {args : List AV} {cargs : List Value} (ha : LRel φ ν args cargs) (hm : MRel E φ ν B m w) {r : AV} {fr : AFrame} (hen : enterA E f args .normal = some fr) (h : allRet r (ih fr [] m) = true) :
    Calls E.P f cargs.toArray w fun e w' => ∃ x φ', e = .returned x ∧ Below B w w' ∧ VRel φ' ν r x := by
  intro cs
  have hF := enterA_sound ha hen
  obtain ⟨h1, h2⟩ := allRet_ok r _ h
  obtain ⟨l, hl, he⟩ := hrun φ B (.leave f cs) fr [] m w _ [] hF .nil hm ⟨rfl, rfl⟩ h1
  obtain ⟨m', rfl⟩ := h2 l hl
  obtain ⟨w', φ', x, q1, q2, q3, q4, fr', q5, q6, q7⟩ := he
  exact ⟨.returned x, w', fr', ⟨x, φ', rfl, q3, q4⟩, q5, q6, q7⟩
theorem entry_of (hrun : RunOk E ν ih) (h0 : E.base = 0) {f : Nat} {args : List AV} {r : AV} {fr : AFrame} (hen : enterA E f args .normal = some fr) (hp : plainL args = true) (hr : plainV r = true)
    (h : allRet r (ih fr [] (startOf E.G)) = true) : EntryOk E.P E.G ν f (args, r) := by
  refine ⟨hp, hr, fun w cargs hG hl => ?_⟩
  have hs := start_rel (E := E) (ν := ν) (w := w) hG (by omega) (fun k hk => by omega)
  refine Calls.mono (ret_calls hrun (plain_lrel hp hl) hs hen h) fun e w' hq => ?_
  obtain ⟨x, φ', rfl, h3, h4⟩ := hq
  exact ⟨x, rfl, h3, plain_rel h4 hr⟩
/-- By a run. -/
theorem entry_run (hrun : RunOk E ν (run E n)) (h0 : E.base = 0) {f : Nat} {args : List AV} {r : AV} (hp : plainL args = true) (hr : plainV r = true)
    (h : allRet r (callA E n f args (startOf E.G)) = true) : EntryOk E.P E.G ν f (args, r) := by
  unfold callA at h
  split at h
  · exact entry_of hrun h0 ‹_› hp hr h
  · cases h
theorem entry_runB (hrun : RunOk E ν (runB E c n)) (h0 : E.base = 0) {f : Nat} {args : List AV} {r : AV} (hp : plainL args = true) (hr : plainV r = true)
    (h : allRet r (callB E c n f args (startOf E.G)) = true) : EntryOk E.P E.G ν f (args, r) := by
  unfold callB at h
  split at h
  · exact entry_of hrun h0 ‹_› hp hr h
  · cases h
end
end Go.Ev
namespace Go.Ev
open Go Go.RowKit
section
variable {E : Env} {φ φ' : Phi} {ν : Nat → Int} {B : Nat} {w w' : World} {m m' : AMem}
theorem idxN_spec (c : Nat) : ∀ (l : List Nat) (i : Nat), (idxN c l i = -1 ∧ c ∉ l) ∨ ∃ j, idxN c l i = .ofNat (i + j) ∧ l[j]? = some c ∧ c ∉ l.take j := by
  intro l
  induction l with
  | nil => intro i; exact .inl ⟨rfl, by simp⟩
  | cons a l ih =>
    intro i
    show (match Nat.beq a c with | true => Int.ofNat i | false => idxN c l (Nat.add i 1)) = -1 ∧ _ ∨ ∃ j, (match Nat.beq a c with | true => Int.ofNat i | false => idxN c l (Nat.add i 1)) = _ ∧ _
    cases h : Nat.beq a c with
    | true => have := nat_beq h; subst this; exact .inr ⟨0, rfl, rfl, by simp⟩
    | false =>
      have hne := nat_beq_false h
      simp only
      rcases ih (Nat.add i 1) with ⟨h1, h2⟩ | ⟨j, h1, h2, h3⟩
      · exact .inl ⟨h1, by simp [h2, Ne.symm hne]⟩
      · refine .inr ⟨j + 1, ?_, by simpa using h2, by simp [h3, Ne.symm hne]⟩
        rw [h1, show Nat.add i 1 + j = i + (j + 1) from by simp only [Nat.add_eq]; omega]
theorem get_byte (s : ByteArray) (i : Nat) (h : i < s.size) : (bytesOf s)[i]? = some (s[i]!).toNat := by
  unfold bytesOf
  rw [List.getElem?_map]
  have h' : i < s.data.size := h
  rw [Array.getElem?_toList, Array.getElem?_eq_getElem h']
  simp only [Option.map_some, Option.some.injEq]
  congr 1
  rw [getElem!_pos s i h]
  rfl
theorem bytesOf_len (s : ByteArray) : (bytesOf s).length = s.size := by
  unfold bytesOf
  simp only [List.length_map, Array.length_toList]
  rfl
theorem firstIdx_eq (s : ByteArray) (c : Nat) (hc : c < 256) : firstIdx s ((Int.ofNat c).toNat.toUInt8) = idxN c (bytesOf s) 0 := by
  have hu : ((Int.ofNat c).toNat.toUInt8).toNat = c := by
    show (c.toUInt8).toNat = c
    simp [Nat.toUInt8, UInt8.toNat_ofNat', Nat.mod_eq_of_lt hc]
  have key : ∀ i, i < s.size → ((s[i]! == (Int.ofNat c).toNat.toUInt8) = true ↔ (bytesOf s)[i]? = some c) := by
    intro i hi
    rw [get_byte s i hi, beq_iff_eq, Option.some.injEq]
    constructor
    · intro h; rw [h, hu]
    · intro h; exact UInt8.toNat_inj.1 (by rw [h, hu])
  unfold firstIdx
  rcases idxN_spec c (bytesOf s) 0 with ⟨h1, h2⟩ | ⟨j, h1, h2, h3⟩
  · rw [h1]
    have : (List.range s.size).find? (fun i => s[i]! == (Int.ofNat c).toNat.toUInt8) = none := by
      rw [List.find?_eq_none]
      intro i hi
      have hi' := List.mem_range.1 hi
      intro hb
      exact h2 (List.mem_of_getElem? ((key i hi').1 hb))
    rw [this]
  · rw [h1]
    have hlt : j < s.size := by rw [← bytesOf_len]; exact (List.getElem?_eq_some_iff.1 h2).1
    have : (List.range s.size).find? (fun i => s[i]! == (Int.ofNat c).toNat.toUInt8) = some j := by
      rw [List.find?_range_eq_some]
      refine ⟨(key j hlt).2 h2, List.mem_range.2 hlt, fun i hi => ?_⟩
      cases hb : (s[i]! == (Int.ofNat c).toNat.toUInt8) with
      | false => rfl
      | true =>
        exfalso
        have := (key i (by omega)).1 hb
        refine h3 (List.mem_of_getElem? (i := i) ?_)
        rw [List.getElem?_take, if_pos hi]
        exact this
    rw [this]
    simp
/-- What a function without a body does, by the model's table. -/
structure Ext0 (P : Program) (f : Nat) (e : Array Value → Sem Value) : Prop where
  run : ∀ (args : Array Value) (w : World), (callFunc f args).run P w = ((e args).run P w).andThen fun v w' => .ok (.value v) w'
theorem Ext0.of {P : Program} {f : Nat} {fn : Func} {e : Array Value → Sem Value} (hf : P.funcs[f]? = some fn) (hname : (fn.name == "runtime.NumGoroutine") = false)
    (hb : fn.body.isNone = true) (hn : Extern.findNext fn = none) (he : Extern.find fn = some e) : Ext0 P f e := ⟨run_callFunc_extern hf hname hb hn he⟩
theorem indexByte_ok {f : Nat} (h : Ext0 E.P f Extern.BytealgIndexByte.indexByte) : HandOk E ν f indexByteH := by
  intro φ B m w args cargs v m' hm hl hv
  unfold indexByteH at hv
  split at hv
  · rename_i s c
    split at hv
    · rename_i hc
      have hc' := nat_blt hc
      obtain ⟨c1, cs1, rfl, q1, hl1⟩ := hl.cons_inv
      obtain ⟨c2, cs2, rfl, q2, hl2⟩ := hl1.cons_inv
      rw [hl2.nil_inv]
      obtain ⟨bs, rfl, rfl⟩ := q1.str_inv
      obtain rfl := q2.int_inv
      have hn : ∀ {β : Type} (n : Int) (g : Int → β), normI n g = g n := by intro β n g; cases n <;> rfl
      rw [hn] at hv
      simp only [Option.some.injEq, Prod.mk.injEq] at hv
      obtain ⟨rfl, rfl⟩ := hv
      refine .inl ⟨.int .i64 (idxN c (bytesOf bs) 0), w, .inl ?_, φ, Ext.refl φ, hm, Below.refl _ _, .int _ _⟩
      rw [h.run]
      have := run_indexByte_string (P := E.P) bs (Int.ofNat c) w
      show (Sem.run E.P (Extern.BytealgIndexByte.indexByte #[.string bs, .int .u8 (Int.ofNat c)]) w).andThen _ = _
      rw [this, firstIdx_eq bs c hc']
      rfl
    · cases hv
  · cases hv
theorem noEscape_ok {f : Nat} (h : Ext0 E.P f Extern.AbiNoEscape.same) : HandOk E ν f idH := by
  intro φ B m w args cargs v m' hm hl hv
  unfold idH at hv
  split at hv
  · obtain ⟨c1, cs1, rfl, q1, hl1⟩ := hl.cons_inv
    rw [hl1.nil_inv]
    simp only [Option.some.injEq, Prod.mk.injEq] at hv
    obtain ⟨rfl, rfl⟩ := hv
    refine .inl ⟨c1, w, .inl ?_, φ, Ext.refl φ, hm, Below.refl _ _, q1⟩
    rw [h.run]
    rfl
  · cases hv
theorem anys_len (n : Nat) : (anys n).length = n := by
  induction n with
  | zero => rfl
  | succ n ih => show (.any :: anys n : List AV).length = _; rw [List.length_cons, ih]
theorem anys_get (n : Nat) : ∀ {i : Nat} {a : AV}, (anys n)[i]? = some a → a = .any := by
  induction n with
  | zero => intro i a h; have : (anys 0) = [] := rfl; rw [this] at h; simp at h
  | succ n ih =>
    intro i a h
    have : anys (n + 1) = .any :: anys n := rfl
    rw [this] at h
    cases i with
    | zero => simp at h; exact h.symm
    | succ i => exact ih (by simpa using h)
theorem noZero_ok {f : Nat} {ps : Array TypeId} {t u8 : TypeId} (h : Ext0 E.P f (Extern.BytealgMakeNoZero.makeNoZero ps #[t])) (ht : E.P.underlying t = some (.slice u8)) : HandOk E ν f (noZeroH u8) := by
  intro φ B m w args cargs v m' hm hl hv
  unfold noZeroH at hv
  split at hv
  · rename_i n
    split at hv
    · rename_i hn
      have hn' := nat_ble hn
      obtain ⟨c1, cs1, rfl, q1, hl1⟩ := hl.cons_inv
      rw [hl1.nil_inv]
      obtain rfl := q1.int_inv
      rw [AMem.new_eq] at hv
      simp only [Option.some.injEq, Prod.mk.injEq] at hv
      obtain ⟨rfl, rfl⟩ := hv
      obtain ⟨cs, hr, hle, _⟩ := Lib.run_makeNoZero (P := E.P) w ps t u8 ht n (by omega)
      refine .inl ⟨.slice (some ⟨w.heap.size, 0, none⟩) n cs.size, w.drew.drew.alloc (.cells cs u8), .inl ?_, ?_⟩
      · rw [h.run]
        show (Sem.run E.P (Extern.BytealgMakeNoZero.makeNoZero ps #[t] #[.int .i64 (Int.ofNat n)]) w).andThen _ = _
        rw [show (Int.ofNat n) = (n : Int) from rfl, hr]
        rfl
      · have hp : Pushed w (w.drew.drew.alloc (.cells cs u8)) (.cells cs u8) := ⟨rfl, rfl, rfl, rfl⟩
        refine Pushed.after hm hp (L := ⟨w.heap.size, 0, cs.size⟩) rfl ?_ (fun φ' hi _ => .sliceO hi (fun _ => rfl) hle (by omega) (by simp))
        exact .cells (by rw [anys_len]; exact hle) (by simp) (fun q => by cases q) (fun i a ha => by
          have hlt : i < cs.size := by
            have := (List.getElem?_eq_some_iff.1 ha).1
            rw [anys_len] at this
            omega
          refine ⟨cs[i], by simp [hlt], ?_⟩
          rw [anys_get n ha]
          exact .any _) (fz_new _)
    · cases hv
  · cases hv
theorem indexByte_k {args : List AV} {v : AV} (h : indexByteH args m = some (v, m')) : Kept m m' := by
  unfold indexByteH at h
  split at h
  · split at h
    · have hn : ∀ {β : Type} (n : Int) (g : Int → β), normI n g = g n := by intro β n g; cases n <;> rfl
      rw [hn] at h
      simp only [Option.some.injEq, Prod.mk.injEq] at h
      obtain ⟨_, rfl⟩ := h
      exact Kept.refl _
    · cases h
  · cases h
theorem id_k {args : List AV} {v : AV} (h : idH args m = some (v, m')) : Kept m m' := by
  unfold idH at h
  split at h
  · simp only [Option.some.injEq, Prod.mk.injEq] at h
    obtain ⟨_, rfl⟩ := h
    exact Kept.refl _
  · cases h
theorem noZero_k {u8 : Nat} {args : List AV} {v : AV} (h : noZeroH u8 args m = some (v, m')) : Kept m m' := by
  unfold noZeroH at h
  split at h
  · split at h
    · rw [AMem.new_eq] at h
      simp only [Option.some.injEq, Prod.mk.injEq] at h
      obtain ⟨_, rfl⟩ := h
      exact Kept.push _ _
    · cases h
  · cases h
end
end Go.Ev
namespace Go.Ev
open Go Go.RowKit
noncomputable def specOf : List (Nat × Handler) → Nat → Option Handler
  | [], _ => none
  | (g, h) :: l, f => match Nat.beq g f with
    | true => some h
    | false => specOf l f
/-- The environment with these contracts. -/
noncomputable def withS (E : Env) (l : List (Nat × Handler)) : Env := ⟨E.P, E.G, specOf l, E.join, E.bnd, E.val, E.base, E.old⟩
/-- .. over this memory that came in, with these bounds. -/
noncomputable def withV (E : Env) (b : Nat → Option (Int × Int)) (v : Nat → Value) (base : Nat) (old : Nat → Option Obj) : Env := ⟨E.P, E.G, E.spec, E.join, b, v, base, old⟩
section
variable {E : Env} {ν : Nat → Int} {l : List (Nat × Handler)} {n : Nat} {c : Head}
theorem specOf_mem : ∀ {l : List (Nat × Handler)} {f : Nat} {h : Handler}, specOf l f = some h → (f, h) ∈ l := by
  intro l
  induction l with
  | nil => intro f h e; cases e
  | cons p l ih =>
    obtain ⟨g, k⟩ := p
    intro f h e
    unfold specOf at e
    split at e
    · rename_i hb
      simp only [Option.some.injEq] at e
      subst e
      rw [nat_beq hb]
      exact .head _
    · exact .tail _ (ih e)
/-- Where two environments agree. -/
structure Alike (E E' : Env) : Prop where
  P : E'.P = E.P
  G : E'.G = E.G
  val : E'.val = E.val
  base : E'.base = E.base
  old : E'.old = E.old
theorem MRel.env {E' : Env} {φ : Phi} {B : Nat} {m : AMem} {w : World} (ha : Alike E E') (h : MRel E φ ν B m w) : MRel E' φ ν B m w :=
  ⟨⟨fun g hg => h.glob g (ha.G ▸ hg)⟩, h.blk, h.dom, h.lt, h.inj, h.own, h.base, h.top, h.lim, h.vals.trans ha.val.symm, by rw [ha.base]; exact h.bas, by rw [ha.base, ha.old]; exact h.old⟩
theorem Alike.symm {E' : Env} (h : Alike E E') : Alike E' E := ⟨h.P.symm, h.G.symm, h.val.symm, h.base.symm, h.old.symm⟩
theorem HandOk.env {E' : Env} (ha : Alike E E') {f : Nat} {h : Handler} (hh : HandOk E ν f h) : HandOk E' ν f h := by
  intro φ B m w args cargs v m' hm hl hv
  rw [ha.P]
  rcases hh φ B m w args cargs v m' (hm.env ha.symm) hl hv with ⟨x, w', hr, φ', h1, h2, h3, h4⟩ | ⟨g, ca, hr, hc⟩
  · exact .inl ⟨x, w', hr, φ', h1, h2.env ha, h3, h4⟩
  · refine .inr ⟨g, ca, hr, Calls.mono hc fun e w' hq => ?_⟩
    obtain ⟨x, h0, φ', h1, h2, h3, h4⟩ := hq
    exact ⟨x, h0, φ', h1, h2.env ha, h3, h4⟩
/-- All contracts of a list hold. -/
structure SpecsOk (E : Env) (l : List (Nat × Handler)) : Prop where
  ok : ∀ ν, ∀ p ∈ l, HandOk E ν p.1 p.2
  kept : ∀ p ∈ l, ∀ args m v m', p.2 args m = some (v, m') → Kept m m'
theorem SpecsOk.nil : SpecsOk E [] := ⟨(fun ν p h => by cases h), (fun p h => by cases h)⟩
theorem SpecsOk.cons {f : Nat} {h : Handler} (hs : SpecsOk E l) (ho : ∀ ν, HandOk E ν f h) (hk : ∀ args m v m', h args m = some (v, m') → Kept m m') : SpecsOk E ((f, h) :: l) :=
  ⟨(fun ν p hp => by cases hp with | head => exact ho ν | tail _ hp => exact hs.ok ν p hp), (fun p hp => by cases hp with | head => exact hk | tail _ hp => exact hs.kept p hp)⟩
theorem alike_S (E : Env) (l : List (Nat × Handler)) : Alike E (withS E l) := ⟨rfl, rfl, rfl, rfl, rfl⟩
theorem SpecsOk.spec (hs : SpecsOk E l) : SpecOk (withS E l) ν := by
  intro f h hf φ B m w args cargs v m' hm hl hv
  exact (hs.ok ν _ (specOf_mem hf)).env (alike_S E l) φ B m w args cargs v m' hm hl hv
theorem SpecsOk.specK (hs : SpecsOk E l) : SpecK (withS E l) := fun _ _ hf args m v m' hv => hs.kept _ (specOf_mem hf) args m v m' hv
theorem SpecsOk.run (hs : SpecsOk E l) (hM : E.P.follows .mixedOrders = true) (hb : Bounded E ν) : RunOk (withS E l) ν (run (withS E l) n) := run_sound (E := withS E l) hb hs.spec hs.specK hM n
theorem SpecsOk.runB (hs : SpecsOk E l) (hM : E.P.follows .mixedOrders = true) (hb : Bounded E ν) : RunOk (withS E l) ν (runB (withS E l) c n) := runB_ok (E := withS E l) hb hs.spec hs.specK hM n
theorem bounded_none (h : E.bnd = fun _ => none) : Bounded E ν := by
  intro i lo hi q
  rw [h] at q
  cases q
theorem SpecsOk.entry (hs : SpecsOk E l) (hM : E.P.follows .mixedOrders = true) (hb : E.bnd = fun _ => none) (h0 : E.base = 0) {f : Nat} {args : List AV} {r : AV} (n : Nat)
    (h : (plainL args && plainV r && allRet r (callA (withS E l) n f args (startOf E.G))) = true) : ∀ ν, EntryOk E.P E.G ν f (args, r) := by
  intro ν
  simp only [Bool.and_eq_true] at h
  exact entry_run (E := withS E l) (ν := ν) (hs.run hM (bounded_none hb)) h0 h.1.1 h.1.2 h.2
theorem SpecsOk.entryB (hs : SpecsOk E l) (hM : E.P.follows .mixedOrders = true) (hb : E.bnd = fun _ => none) (h0 : E.base = 0) {f : Nat} {args : List AV} {r : AV} (c : Head) (n : Nat)
    (h : (plainL args && plainV r && allRet r (callB (withS E l) c n f args (startOf E.G))) = true) : ∀ ν, EntryOk E.P E.G ν f (args, r) := by
  intro ν
  simp only [Bool.and_eq_true] at h
  exact entry_runB (E := withS E l) (ν := ν) (hs.runB hM (bounded_none hb)) h0 h.1.1 h.1.2 h.2
theorem SpecsOk.alike {E' : Env} (ha : Alike E E') (hs : SpecsOk E l) : SpecsOk E' l := ⟨fun ν p hp => (hs.ok ν p hp).env ha, hs.kept⟩
/-- A call whose numbers lie within bounds. -/
theorem SpecsOk.entryN (hs : SpecsOk E l) (hM : E.P.follows .mixedOrders = true) (hb : Bounded E ν) (h0 : E.base = 0) {f : Nat} {args : List AV} {r : AV} (n : Nat)
    (h : (plainL args && plainV r && allRet r (callA (withS E l) n f args (startOf E.G))) = true) : EntryOk E.P E.G ν f (args, r) := by
  simp only [Bool.and_eq_true] at h
  exact entry_run (E := withS E l) (ν := ν) (hs.run hM hb) h0 h.1.1 h.1.2 h.2
theorem SpecsOk.memo (hs : SpecsOk E l) {f : Nat} {tab : List (List AV × AV)} (he : enters E.P f = true) (h : ∀ x ∈ tab, ∀ ν, EntryOk E.P E.G ν f x) : SpecsOk E ((f, memoH tab) :: l) :=
  hs.cons (fun ν => memo_ok he fun x hx => h x hx ν) (fun _ _ _ _ => memo_k)
/-- A table, row by row. -/
theorem all_nil {p : List AV × AV → Prop} : ∀ x ∈ ([] : List (List AV × AV)), p x := fun x h => by cases h
theorem all_cons {p : List AV × AV → Prop} {y : List AV × AV} {t : List (List AV × AV)} (h : p y) (ht : ∀ x ∈ t, p x) : ∀ x ∈ y :: t, p x := fun x hx => by cases hx with | head => exact h | tail _ hx => exact ht x hx
end
end Go.Ev
namespace Go.Ev
open Go Go.RowKit
/-! all ways return a value of this form -/
mutual
noncomputable def allP (p : AV → Bool) : Tree → Bool
  | .leaf (.ret v _) => p v
  | .node ts => allPs p ts
  | _ => false
noncomputable def allPs (p : AV → Bool) : List Tree → Bool
  | [] => true
  | t :: ts => match allP p t with
    | true => allPs p ts
    | false => false
end
mutual
theorem allP_ok (p : AV → Bool) : ∀ (t : Tree), allP p t = true → Full t ∧ ∀ l, LeafOf t l → ∃ v m, l = .ret v m ∧ p v = true
  | .fail, h => by cases h
  | .leaf (.ret v m), h => ⟨.leaf _, (fun l hl => by cases hl; exact ⟨v, m, rfl, h⟩)⟩
  | .leaf (.pan c m), h => by cases h
  | .node ts, h => ⟨.node (allPs_ok p ts h).1, (fun l hl => by cases hl with | node ht hl => exact (allPs_ok p ts h).2 _ ht l hl)⟩
theorem allPs_ok (p : AV → Bool) : ∀ (ts : List Tree), allPs p ts = true → (∀ t ∈ ts, Full t) ∧ ∀ t ∈ ts, ∀ l, LeafOf t l → ∃ v m, l = .ret v m ∧ p v = true
  | [], h => ⟨(fun t ht => by cases ht), (fun t ht => by cases ht)⟩
  | t :: ts, h => by
    unfold allPs at h
    split at h
    · rename_i h1
      obtain ⟨a1, a2⟩ := allP_ok p t h1
      obtain ⟨b1, b2⟩ := allPs_ok p ts h
      exact ⟨(fun t' ht' => by cases ht' with | head => exact a1 | tail _ ht' => exact b1 t' ht'), (fun t' ht' => by cases ht' with | head => exact a2 | tail _ ht' => exact b2 t' ht')⟩
    · cases h
end
section
variable {E : Env} {φ φ' : Phi} {ν : Nat → Int} {B n : Nat} {w w' : World} {m m' : AMem} {ih : Run}
theorem p_calls (hrun : RunOk E ν (run E n)) {f : Nat} {args : List AV} {cargs : List Value} (ha : LRel φ ν args cargs) (hm : MRel E φ ν B m w) {p : AV → Bool} (h : allP p (callA E n f args m) = true) :
    Calls E.P f cargs.toArray w fun e w' => ∃ x φ' v, e = .returned x ∧ Below B w w' ∧ p v = true ∧ VRel φ' ν v x := by
  intro cs
  unfold callA at h
  split at h
  · rename_i fr hen
    have hF := enterA_sound ha hen
    obtain ⟨h1, h2⟩ := allP_ok p _ h
    obtain ⟨l, hl, he⟩ := hrun φ B (.leave f cs) fr [] m w _ [] hF .nil hm ⟨rfl, rfl⟩ h1
    obtain ⟨v, m', rfl, hp⟩ := h2 l hl
    obtain ⟨w', φ', x, q1, q2, q3, q4, fr', q5, q6, q7⟩ := he
    exact ⟨.returned x, w', fr', ⟨x, φ', v, rfl, q3, hp, q4⟩, q5, q6, q7⟩
  · cases h
/-- A memory with one row of what came in. -/
noncomputable def startX (G : Nat) (cs : List AV) (sz : Nat) : AMem := ⟨(Tr.nil : Tr ABlk).put (toPth G) (some (.xrow cs sz 0)), Nat.succ G, 0, false⟩
/-- Where nothing is known of the row but that it lies there. -/
noncomputable def startY (G : Nat) : AMem := ⟨.nil, Nat.succ G, 0, false⟩
theorem start_relX (hG : E.G ≤ w.heap.size) (hb : E.base ≤ w.heap.size) (ho : ∀ k, k < E.base → w.heap[k]? = E.old k) {L : Loc} (hL : L.b < w.heap.size) {cs : List AV} {sz : Nat}
    (hx : ∃ o, w.heap[L.b]? = some o ∧ BObj ((phiG E.G E.val).put E.G L) ν (.xrow cs sz 0) L o) : MRel E ((phiG E.G E.val).put E.G L) ν w.heap.size (startX E.G cs sz) w := by
  have get : ∀ {id b}, (startX E.G cs sz).get id = some b → id = E.G ∧ b = .xrow cs sz 0 := by
    intro id b h
    unfold startX AMem.get at h
    simp only at h
    rw [Tr.get_putN] at h
    by_cases e : E.G = id
    · rw [if_pos e] at h; simp only [Option.some.injEq] at h; exact ⟨e.symm, h.symm⟩
    · rw [if_neg e, Tr.get_nil] at h; cases h
  have loc : ∀ {id L'}, (phiG E.G E.val).put E.G L id = some L' → (id = E.G ∧ L' = L) ∨ (id < E.G ∧ L' = ⟨id, 0, 0⟩) := by
    intro id L' h
    by_cases e : id = E.G
    · subst e; rw [Phi.put_self] at h; simp only [Option.some.injEq] at h; exact .inl ⟨rfl, h.symm⟩
    · rw [phi_put_ne L e] at h; exact .inr (phiG_some h)
  refine ⟨⟨fun g hg => ⟨⟨g, 0, 0⟩, ?_, rfl, rfl⟩⟩, fun id b L' h hl => ?_, fun id L' h => ?_, fun id L' h => ?_, fun i j y z L1 L2 hy hz _ _ _ => ?_, fun id b L' h _ hw => ?_, Nat.le_refl _, fun id b h => ?_, Nat.zero_le _, rfl, hb, ho⟩
  · rw [phi_put_ne L (by omega)]
    show (if g < E.G then _ else none) = _
    rw [if_pos hg]
  · obtain ⟨rfl, rfl⟩ := get h
    rw [Phi.put_self] at hl
    simp only [Option.some.injEq] at hl
    subst hl
    exact hx
  · show id < Nat.succ E.G
    rcases loc h with ⟨rfl, _⟩ | ⟨q, _⟩ <;> omega
  · rcases loc h with ⟨_, rfl⟩ | ⟨q, rfl⟩
    · exact hL
    · exact Nat.lt_of_lt_of_le q hG
  · rw [(get hy).1, (get hz).1]
  · rw [(get h).2] at hw; cases hw
  · show id < Nat.succ E.G
    rw [(get h).1]; omega
theorem start_relY (hG : E.G ≤ w.heap.size) (hb : E.base ≤ w.heap.size) (ho : ∀ k, k < E.base → w.heap[k]? = E.old k) {L : Loc} (hL : L.b < w.heap.size) : MRel E ((phiG E.G E.val).put E.G L) ν w.heap.size (startY E.G) w := by
  have none' : ∀ id b, (startY E.G).get id = some b → False := by
    intro id b h
    unfold startY AMem.get at h
    simp only at h
    rw [Tr.get_nil] at h
    cases h
  have loc : ∀ {id L'}, (phiG E.G E.val).put E.G L id = some L' → (id = E.G ∧ L' = L) ∨ (id < E.G ∧ L' = ⟨id, 0, 0⟩) := by
    intro id L' h
    by_cases e : id = E.G
    · subst e; rw [Phi.put_self] at h; simp only [Option.some.injEq] at h; exact .inl ⟨rfl, h.symm⟩
    · rw [phi_put_ne L e] at h; exact .inr (phiG_some h)
  refine ⟨⟨fun g hg => ⟨⟨g, 0, 0⟩, ?_, rfl, rfl⟩⟩, fun id b L' h => (none' id b h).elim, fun id L' h => ?_, fun id L' h => ?_, fun i j y z L1 L2 hy => (none' i y hy).elim, fun id b L' h => (none' id b h).elim, Nat.le_refl _, fun id b h => (none' id b h).elim, Nat.zero_le _, rfl, hb, ho⟩
  · rw [phi_put_ne L (by omega)]
    show (if g < E.G then _ else none) = _
    rw [if_pos hg]
  · show id < Nat.succ E.G
    rcases loc h with ⟨rfl, _⟩ | ⟨q, _⟩ <;> omega
  · rcases loc h with ⟨_, rfl⟩ | ⟨q, rfl⟩
    · exact hL
    · exact Nat.lt_of_lt_of_le q hG
end
/-! rows of cells -/
inductive Kd where | one | str | good
def KdOk : Kd → Value → Prop
  | .one, u => u.oneCell' = true
  | .str, u => ∃ s, u = .string s
  | .good, u => u.oneCell' = true
noncomputable def cellK (kd : Kd) (j : Nat) : AV := match kd with
  | .one => .one
  | .str => .vstr j
  | .good => .vgood j
/-- n cells, from cell i on; cell i's value has the number b0 + i. -/
noncomputable def mkRow (k : List Kd) (sz b0 : Nat) (n : Nat) : Nat → List AV := Nat.rec (motive := fun _ => Nat → List AV) (fun _ => []) (fun _ ih i => match getL (i % sz) k with
  | some kd => force (Nat.add b0 i) fun j => cellK kd j :: ih (Nat.add i 1)
  | none => []) n
theorem mkRow_get {k : List Kd} {sz b0 : Nat} : ∀ {n i j : Nat} {a : AV}, (mkRow k sz b0 n i)[j]? = some a → ∃ kd, k[(i + j) % sz]? = some kd ∧ a = cellK kd (b0 + (i + j)) := by
  intro n
  induction n with
  | zero => intro i j a h; have e : mkRow k sz b0 0 i = [] := rfl; rw [e] at h; simp at h
  | succ n ih =>
    intro i j a h
    have e : mkRow k sz b0 (n + 1) i = (match getL (i % sz) k with
      | some kd => force (Nat.add b0 i) fun j => cellK kd j :: mkRow k sz b0 n (Nat.add i 1)
      | none => []) := rfl
    rw [e, getL_eq] at h
    split at h
    · rename_i kd hk
      rw [force_eq] at h
      cases j with
      | zero => simp at h; subst h; exact ⟨kd, hk, rfl⟩
      | succ j =>
        obtain ⟨kd', q1, q2⟩ := ih (by simpa using h)
        exact ⟨kd', by rw [show i + (j + 1) = i + 1 + j from by omega]; exact q1, by rw [show i + (j + 1) = i + 1 + j from by omega]; exact q2⟩
    · simp at h
/-- A slice that came in: its rows lie in the memory that came in. -/
inductive SlOk (old : Nat → Option Obj) (base sz : Nat) (k : List Kd) (more : Nat → Value → Prop) : Value → Prop
  | nil : SlOk old base sz k more (.slice none 0 0)
  | empty {a : Addr} {c : Nat} : (c ≠ 0 → a.spot = none ∧ a.block < base) → SlOk old base sz k more (.slice (some a) 0 c)
  | row {b off n c ty : Nat} {cc : Array Value} {fz : Nat × Nat} : b < base → n ≤ c → old b = some (.cells cc ty fz) →
      (∀ i, i < n * sz → ∃ u, cc[off + i]? = some u ∧ (∀ kd, k[i % sz]? = some kd → KdOk kd u) ∧ more (i % sz) u) → SlOk old base sz k more (.slice (some ⟨b, off, none⟩) n c)
/-- The values of a row's cells, by their number. -/
def valsOf (cc : Array Value) (off n : Nat) (i : Nat) : Value := match cc[off + i]? with
  | some u => if i < n then u else .slice none 0 0
  | none => .slice none 0 0
theorem valsOf_get {cc : Array Value} {off n i : Nat} {u : Value} (h : cc[off + i]? = some u) (hi : i < n) : valsOf cc off n i = u := by
  unfold valsOf; rw [h]; simp [hi]
section
variable {φ : Phi} {ν : Nat → Int}
theorem cellK_rel {kd : Kd} {j : Nat} {u : Value} (hv : φ.val j = u) (h : KdOk kd u) : VRel φ ν (cellK kd j) u := by
  cases kd with
  | one => exact .one _ h
  | str => obtain ⟨s, rfl⟩ := h; exact .vstr hv
  | good => exact .vgood hv h
/-- The row, as the machine takes it. -/
theorem row_obj {k : List Kd} {sz b0 N n off b ty : Nat} {cc : Array Value} {fz : Nat × Nat} (hc : ∀ i, i < n * sz → ∃ u, cc[off + i]? = some u ∧ ∀ kd, k[i % sz]? = some kd → KdOk kd u)
    (hv : ∀ i, i < n * sz → ∀ u, cc[off + i]? = some u → φ.val (b0 + i) = u) : BObj φ ν (.xrow (mkRow k sz b0 N 0) sz 0) ⟨b, off, n⟩ (.cells cc ty fz) := by
  refine .xrow (Nat.zero_le _) (fun i a ha hi => ?_)
  obtain ⟨kd, h1, rfl⟩ := mkRow_get ha
  rw [Nat.zero_add] at h1 ⊢
  obtain ⟨u, h2, h3⟩ := hc i hi
  exact ⟨u, h2, cellK_rel (hv i hi u h2) (h3 kd h1)⟩
end
end Go.Ev
namespace Go.Ev
open Go
inductive FK where | one | str | sl (e : TypeId)
noncomputable def flatF (P : Program) (go : TypeId → Option (List FK)) : List Field → Nat → Option (List FK)
  | [], _ => some []
  | f :: fs, off => match go f.type with
    | some ks => match Nat.beq f.offset off, Nat.beq (lenL ks) (P.cellsOf f.type) with
      | true, true => match flatF P go fs (Nat.add off (lenL ks)) with
        | some r => some (ks ++ r)
        | none => none
      | _, _ => none
    | none => none
noncomputable def flatR (ks : List FK) : Nat → List FK
  | 0 => []
  | n + 1 => ks ++ flatR ks n
noncomputable def flat (P : Program) : Nat → TypeId → Option (List FK)
  | 0, _ => none
  | n + 1, t => match P.underlying t with
    | some .bool => some [.one]
    | some (.int _) => some [.one]
    | some .string => some [.str]
    | some (.slice e) => some [.sl e]
    | some (.struct fs) => flatF P (flat P n) fs.toList 0
    | some (.array k e) => match flat P n e with
      | some ks => match Nat.beq (lenL ks) (P.cellsOf e) with
        | true => some (flatR ks k)
        | false => none
      | none => none
    | _ => none
section
variable {H : Type} {enc : TypeId × Value → H} {P : Program} {w : World} {held : Bool}
/-- What a kind says of a cell, where every slice reads with its spare places. -/
def FOk (enc : TypeId × Value → H) (P : Program) (w : World) (held : Bool) : FK → Value → Prop
  | .one, u => u.oneCell' = true
  | .str, u => ∃ s, u = .string s
  | .sl e, u => u = .slice none 0 0 ∨ ∃ a len cap, u = .slice (some a) len cap ∧ len ≤ cap ∧
      ∀ i, i < cap → ∃ m c y, w.cells? 0 (a.add (i * P.cellsOf e)) (P.cellsOf e) = some c ∧ DataW.trod enc P w 0 (fun _ => true) held m e c = some y
theorem FOk.oneCell {k : FK} {u : Value} (h : FOk enc P w held k u) : u.oneCell' = true := by
  cases k with
  | one => exact h
  | str => obtain ⟨s, rfl⟩ := h; rfl
  | sl e => rcases h with rfl | ⟨a, l, c, rfl, _⟩ <;> rfl
theorem flatF_ok {go : TypeId → Option (List FK)} {n : Nat} {cs : List Value}
    (hgo : ∀ {t : TypeId} {ks : List FK} {c : List Value} {x : DataW H × List MemPlace}, go t = some ks → DataW.trod enc P w 0 (fun _ => true) held n t c = some x → ∀ (i : Nat) (k : FK), ks[i]? = some k → ∃ u, c[i]? = some u ∧ FOk enc P w held k u) :
    ∀ {fs : List Field} {off : Nat} {ks : List FK}, flatF P go fs off = some ks →
      (∀ f ∈ fs, ∃ y, DataW.trod enc P w 0 (fun _ => true) held n f.type ((cs.drop f.offset).take (P.cellsOf f.type)) = some y) →
      ∀ (i : Nat) (k : FK), ks[i]? = some k → ∃ u, cs[off + i]? = some u ∧ FOk enc P w held k u := by
  intro fs
  induction fs with
  | nil => intro off ks h _ i k hi; simp [flatF] at h; subst h; simp at hi
  | cons f fs ih =>
    intro off ks h hy i k hi
    unfold flatF at h
    split at h
    · rename_i ks1 h1
      split at h
      · rename_i g1 g2
        split at h
        · rename_i r hr
          simp only [Option.some.injEq] at h
          subst h
          have g1 := nat_beq g1
          have g2 := nat_beq g2
          rw [lenL_eq] at g2 hr
          obtain ⟨y, hy1⟩ := hy f (List.mem_cons_self ..)
          by_cases hlt : i < ks1.length
          · rw [List.getElem?_append_left hlt] at hi
            obtain ⟨u, q1, q2⟩ := hgo h1 hy1 i k hi
            rw [List.getElem?_take, if_pos (by omega), List.getElem?_drop, g1] at q1
            exact ⟨u, q1, q2⟩
          · rw [List.getElem?_append_right (by omega)] at hi
            obtain ⟨u, q1, q2⟩ := ih hr (fun f' hf' => hy f' (List.mem_cons_of_mem _ hf')) _ k hi
            rw [show Nat.add off ks1.length + (i - ks1.length) = off + i from by show off + ks1.length + (i - ks1.length) = off + i; omega] at q1
            exact ⟨u, q1, q2⟩
        · cases h
      · cases h
    · cases h
theorem flatR_get {ks : List FK} : ∀ {n i : Nat} {k : FK}, (flatR ks n)[i]? = some k → ∃ j l, j < n ∧ l < ks.length ∧ i = j * ks.length + l ∧ ks[l]? = some k := by
  intro n
  induction n with
  | zero => intro i k h; simp [flatR] at h
  | succ n ih =>
    intro i k h
    unfold flatR at h
    by_cases hlt : i < ks.length
    · rw [List.getElem?_append_left hlt] at h
      exact ⟨0, i, by omega, hlt, by omega, h⟩
    · rw [List.getElem?_append_right (by omega)] at h
      obtain ⟨j, l, q1, q2, q3, q4⟩ := ih h
      exact ⟨j + 1, l, by omega, q2, by rw [Nat.add_mul]; omega, q4⟩
theorem flat_ok : ∀ {n m : Nat} {t : TypeId} {ks : List FK} {cs : List Value} {x : DataW H × List MemPlace}, flat P n t = some ks → DataW.trod enc P w 0 (fun _ => true) held m t cs = some x →
    ∀ (i : Nat) (k : FK), ks[i]? = some k → ∃ u, cs[i]? = some u ∧ FOk enc P w held k u := by
  intro n
  induction n with
  | zero => intro m t ks cs x h; cases h
  | succ n ih =>
    intro m t ks cs x h hd i k hi
    unfold flat at h
    split at h
    · rename_i ht
      simp only [Option.some.injEq] at h; subst h
      obtain ⟨b, rfl, _⟩ := DataW.trod_bool ht hd
      cases i with
      | zero => simp at hi; subst hi; exact ⟨_, rfl, rfl⟩
      | succ i => simp at hi
    · rename_i ht
      simp only [Option.some.injEq] at h; subst h
      obtain ⟨b, rfl, _⟩ := DataW.trod_int ht hd
      cases i with
      | zero => simp at hi; subst hi; exact ⟨_, rfl, rfl⟩
      | succ i => simp at hi
    · rename_i ht
      simp only [Option.some.injEq] at h; subst h
      obtain ⟨b, rfl, _⟩ := DataW.trod_string ht hd
      cases i with
      | zero => simp at hi; subst hi; exact ⟨_, rfl, _, rfl⟩
      | succ i => simp at hi
    · rename_i e ht
      simp only [Option.some.injEq] at h; subst h
      cases i with
      | succ i => simp at hi
      | zero =>
        simp at hi; subst hi
        rcases DataW.trod_slice ht hd with ⟨rfl, _⟩ | ⟨a, len, cap, elems, rest, n', _, rfl, _, _, hl, _, hlen, hel, hsp, _⟩
        · exact ⟨_, rfl, .inl rfl⟩
        · refine ⟨_, rfl, .inr ⟨a, len, cap, rfl, hl, fun i hic => ?_⟩⟩
          obtain ⟨hr, hj⟩ := hsp rfl
          by_cases h1 : i < len
          · have hq := hel i h1
            rw [List.getElem?_eq_getElem (by omega), Option.bind_eq_some_iff] at hq
            obtain ⟨c, q1, q2⟩ := hq
            exact ⟨n', c, _, q1, q2⟩
          · have hq := hj (i - len) (by omega)
            rw [List.getElem?_eq_getElem (by omega), Option.bind_eq_some_iff] at hq
            obtain ⟨c, q1, q2⟩ := hq
            rw [show len + (i - len) = i from by omega] at q1
            exact ⟨n', c, _, q1, q2⟩
    · rename_i fs ht
      obtain ⟨xs, n', _, _, _, hlen, hf⟩ := DataW.trod_struct ht hd
      have := flatF_ok (cs := cs) (fun h1 h2 => ih h1 h2) h (fun f hf' => by
        obtain ⟨j, hj⟩ := List.mem_iff_getElem?.1 hf'
        have hj' : fs[j]? = some f := by simpa using hj
        have hlt : j < xs.length := by rw [hlen]; exact (Array.getElem?_eq_some_iff.1 hj').1
        exact ⟨_, (hf j f hj').trans (List.getElem?_eq_getElem hlt)⟩) i k hi
      simpa using this
    · rename_i num e ht
      split at h
      · rename_i ks1 h1
        split at h
        · rename_i g1
          simp only [Option.some.injEq] at h; subst h
          have g1 := nat_beq g1
          rw [lenL_eq] at g1
          obtain ⟨xs, m', _, _, _, hlen, hf⟩ := DataW.trod_array ht hd
          obtain ⟨j, l, q1, q2, rfl, q4⟩ := flatR_get hi
          have hq := hf j q1
          rw [List.getElem?_eq_getElem (by omega)] at hq
          obtain ⟨u, r1, r2⟩ := ih h1 hq l k q4
          rw [List.getElem?_take, if_pos (by omega), List.getElem?_drop, ← g1] at r1
          exact ⟨u, r1, r2⟩
        · cases h
      · cases h
    · cases h
/-- Kinds asked for, against kinds found. -/
def kdsB : List Kd → List FK → Bool
  | [], _ => true
  | .str :: ks, .str :: fs => kdsB ks fs
  | .str :: _, _ :: _ => false
  | _ :: ks, _ :: fs => kdsB ks fs
  | _ :: _, [] => false
theorem kdsB_ok : ∀ {ks : List Kd} {fs : List FK}, kdsB ks fs = true → ∀ {i : Nat} {kd : Kd} {fk : FK} {u : Value}, ks[i]? = some kd → fs[i]? = some fk → FOk enc P w held fk u → KdOk kd u := by
  intro ks
  induction ks with
  | nil => intro fs _ i kd fk u h; simp at h
  | cons k ks ih =>
    intro fs h i kd fk u h1 h2 h3
    cases fs with
    | nil => cases k <;> cases h
    | cons f fs =>
      cases i with
      | succ i =>
        refine ih ?_ (by simpa using h1) (by simpa using h2) h3
        cases k <;> cases f <;> first | exact h | (cases h; done)
      | zero =>
        simp only [List.getElem?_cons_zero, Option.some.injEq] at h1 h2
        subst h1; subst h2
        cases k with
        | one => exact h3.oneCell
        | good => exact h3.oneCell
        | str => cases f with
          | str => exact h3
          | one => cases h
          | sl e => cases h
theorem cells_get {a : Addr} {n : Nat} {c : List Value} (h : w.cells? 0 a n = some c) : c.length = n ∧ ∀ i, i < n → w.cell? (a.add i) = c[i]? := by
  unfold World.cells? at h
  split at h
  · exact ⟨by simpa using mapM_some_length h, fun i hi => mapM_some_get h i i (by simp [hi])⟩
  · cases h
theorem cell_inv {a : Addr} {v : Value} (h : w.cell? a = some v) : ∃ cc ty fz, w.heap[a.block]? = some (.cells cc ty fz) ∧ a.spot = none ∧ cc[a.off]? = some v := by
  unfold World.cell? at h
  split at h
  · rename_i c ty fz hb
    split at h
    · cases h
    · rename_i hs
      exact ⟨c, ty, fz, hb, by simpa using hs, h⟩
  · cases h
theorem slOk_of {e : TypeId} {sz n : Nat} {k : List Kd} {ks : List FK} {more : Nat → Value → Prop} {u : Value} (hsz : P.cellsOf e = sz) (h0 : 0 < sz) (hf : flat P n e = some ks) (hl : ks.length = sz) (hk : kdsB k ks = true)
    (hm : ∀ i fk v, ks[i]? = some fk → FOk enc P w held fk v → more i v) (h : FOk enc P w held (.sl e) u) : SlOk (fun b => w.heap[b]?) w.heap.size sz k more u := by
  rcases h with rfl | ⟨a, len, cap, rfl, hlc, hel⟩
  · exact .nil
  · have first : 0 < cap → ∃ cc ty fz, w.heap[a.block]? = some (.cells cc ty fz) ∧ a.spot = none := by
      intro hc
      obtain ⟨m, c, y, q1, _⟩ := hel 0 hc
      rw [hsz, Nat.zero_mul] at q1
      obtain ⟨l1, l2⟩ := cells_get q1
      have := l2 0 h0
      rw [List.getElem?_eq_getElem (by omega)] at this
      obtain ⟨cc, ty, fz, r1, r2, _⟩ := cell_inv this
      exact ⟨cc, ty, fz, r1, r2⟩
    by_cases hlen : len = 0
    · subst hlen
      refine .empty fun hc => ?_
      obtain ⟨cc, ty, fz, r1, r2⟩ := first (by omega)
      exact ⟨r2, (Array.getElem?_eq_some_iff.1 r1).1⟩
    · obtain ⟨cc, ty, fz, r1, r2⟩ := first (by omega)
      obtain ⟨b, off, sp⟩ := a
      simp only at r1 r2
      subst r2
      refine .row (Array.getElem?_eq_some_iff.1 r1).1 hlc r1 fun i hi => ?_
      have hd : i / sz < len := (Nat.div_lt_iff_lt_mul h0).2 hi
      have hmd : i % sz < sz := Nat.mod_lt _ h0
      obtain ⟨m, c, y, q1, q2⟩ := hel (i / sz) (by omega)
      rw [hsz] at q1
      obtain ⟨l1, l2⟩ := cells_get q1
      have hlt : i % sz < ks.length := by omega
      obtain ⟨v, s1, s2⟩ := flat_ok hf q2 (i % sz) _ (List.getElem?_eq_getElem hlt)
      have hc := (l2 (i % sz) hmd).trans s1
      obtain ⟨cc', ty', fz', t1, t2, t3⟩ := cell_inv hc
      have ha : (((⟨b, off, none⟩ : Addr).add (i / sz * sz)).add (i % sz)).block = b ∧ (((⟨b, off, none⟩ : Addr).add (i / sz * sz)).add (i % sz)).off = off + i := by
        have hdm : i / sz * sz + i % sz = i := by rw [Nat.mul_comm]; exact Nat.div_add_mod i sz
        unfold Addr.add
        split <;> split <;> simp <;> omega
      rw [ha.1, r1] at t1
      simp only [Option.some.injEq, Obj.cells.injEq] at t1
      obtain ⟨rfl, rfl, rfl⟩ := t1
      rw [ha.2] at t3
      exact ⟨v, t3, fun kd hkd => kdsB_ok hk hkd (List.getElem?_eq_getElem hlt) s2, hm _ _ _ (List.getElem?_eq_getElem hlt) s2⟩
end
end Go.Ev
namespace Go.Ev
open Go
section
variable {α : Type}
/-- A list as a trie. -/
noncomputable def trL (l : List α) : Nat → Tr α → Tr α := List.rec (motive := fun _ => Nat → Tr α → Tr α) (fun _ t => t) (fun a _ ih i t => ih (Nat.add i 1) (t.put (toPth i) (some a))) l
noncomputable def trOf (l : List α) : Tr α := trL l 0 .nil
theorem trL_get : ∀ (l : List α) (i : Nat) (t : Tr α) (j : Nat), (∀ k, i ≤ k → t.get (toPth k) = none) → (trL l i t).get (toPth j) = if i ≤ j then l[j - i]? else t.get (toPth j) := by
  intro l
  induction l with
  | nil =>
    intro i t j h
    show t.get (toPth j) = _
    by_cases hj : i ≤ j
    · rw [if_pos hj, h j hj]; simp
    · rw [if_neg hj]
  | cons a l ih =>
    intro i t j h
    show (trL l (i + 1) (t.put (toPth i) (some a))).get (toPth j) = _
    rw [ih (i + 1) _ j (fun k hk => by rw [Tr.get_putN, if_neg (by omega)]; exact h k (by omega)), Tr.get_putN]
    by_cases h1 : i + 1 ≤ j
    · rw [if_pos h1, if_pos (by omega), show j - i = (j - (i + 1)) + 1 from by omega, List.getElem?_cons_succ]
    · rw [if_neg h1]
      by_cases h2 : i = j
      · subst h2; rw [if_pos rfl, if_pos (Nat.le_refl _), Nat.sub_self, List.getElem?_cons_zero]
      · rw [if_neg h2, if_neg (by omega)]
theorem trOf_get (l : List α) (j : Nat) : (trOf l).get (toPth j) = l[j]? := by
  unfold trOf
  rw [trL_get l 0 .nil j (fun k _ => Tr.get_nil _), if_pos (Nat.zero_le _), Nat.sub_zero]
end
/-- The closure, with what was seen in a trie. -/
noncomputable def clT (look : Nat → List Nat) (n : Nat) : List Nat → Tr Unit → List Nat → List Nat :=
  Nat.rec (motive := fun _ => List Nat → Tr Unit → List Nat → List Nat) (fun _ _ seen => seen)
    (fun _ ih todo T seen => List.rec (motive := fun _ => List Nat) seen
      (fun f rest _ => match T.get (toPth f) with
        | some _ => ih rest T seen
        | none => ih (look f ++ rest) (T.put (toPth f) (some ())) (f :: seen)) todo) n
theorem clT_eq (P : Program) (look : Nat → List Nat) (hl : ∀ f, look f = (P.funcs[f]?).elim [] P.leadsTo) : ∀ (n : Nat) (todo : List Nat) (T : Tr Unit) (seen : List Nat), (∀ x, (T.get (toPth x)).isSome = seen.contains x) →
    P.closureVia n todo seen = (clT look n todo T seen).reverse := by
  intro n
  induction n with
  | zero => intro todo T seen _; cases todo <;> rfl
  | succ n ih =>
    intro todo T seen h
    cases todo with
    | nil => rfl
    | cons f rest =>
      show P.closureVia (n + 1) (f :: rest) seen = (match T.get (toPth f) with
        | some _ => clT look n rest T seen
        | none => clT look n (look f ++ rest) (T.put (toPth f) (some ())) (f :: seen)).reverse
      unfold Program.closureVia
      have hf := h f
      split
      · rename_i hc
        rw [hc] at hf
        obtain ⟨u, hu⟩ := Option.isSome_iff_exists.1 hf
        rw [hu]
        exact ih rest T seen h
      · rename_i hc
        have hn : T.get (toPth f) = none := by
          cases e : T.get (toPth f) with
          | none => rfl
          | some u => rw [e] at hf; exact absurd hf.symm hc
        rw [hn]
        simp only
        rw [hl]
        refine ih _ _ _ fun x => ?_
        rw [Tr.get_putN, List.contains_cons]
        by_cases e : f = x
        · subst e; simp
        · rw [if_neg e, h x]
          have : (x == f) = false := by simpa using fun e' : x = f => e e'.symm
          rw [this, Bool.false_or]
noncomputable def fnT (P : Program) : Tr Func := trOf P.funcs.toList
theorem fnT_get (P : Program) (g : Nat) : P.funcs[g]? = (fnT P).get (toPth g) := by unfold fnT; rw [trOf_get]; simp
noncomputable def lookT (P : Program) (T : Tr Func) (f : Nat) : List Nat := match T.get (toPth f) with
  | some fn => P.leadsTo fn
  | none => []
theorem lookT_eq (P : Program) (f : Nat) : lookT P (fnT P) f = (P.funcs[f]?).elim [] P.leadsTo := by
  unfold lookT
  rw [fnT_get]
  cases (fnT P).get (toPth f) <;> rfl
theorem closure_eq (P : Program) (f : Nat) : P.closure f = (clT (lookT P (fnT P)) (1 + (P.funcs.toList.map fun g => (P.leadsTo g).length + 1).sum) [f] .nil []).reverse := by
  unfold Program.closure
  exact clT_eq P _ (lookT_eq P) _ _ _ _ (fun x => by rw [Tr.get_nil]; rfl)
end Go.Ev
