/-
  The abstract machine: values, memory, operations, frames.
-/
import Derived.Calls
set_option linter.unusedVariables false
set_option linter.unusedSimpArgs false
namespace Go.Ev
inductive Pth where | e | l (p : Pth) | r (p : Pth)
  deriving DecidableEq
inductive Tr (α : Type) where | nil | node (v : Option α) (a b : Tr α)
noncomputable section
variable {α β : Type}
def Tr.here (t : Tr α) : Option α := Tr.rec (motive := fun _ => Option α) none (fun v _ _ _ _ => v) t
def Tr.left (t : Tr α) : Tr α := Tr.rec (motive := fun _ => Tr α) .nil (fun _ a _ _ _ => a) t
def Tr.right (t : Tr α) : Tr α := Tr.rec (motive := fun _ => Tr α) .nil (fun _ _ b _ _ => b) t
def Tr.get (p : Pth) : Tr α → Option α :=
  Pth.rec (motive := fun _ => Tr α → Option α) Tr.here (fun _ ih t => ih t.left) (fun _ ih t => ih t.right) p
def Tr.put (p : Pth) : Option α → Tr α → Tr α :=
  Pth.rec (motive := fun _ => Option α → Tr α → Tr α) (fun x t => .node x t.left t.right) (fun _ ih x t => .node t.here (ih x t.left) t.right)
    (fun _ ih x t => .node t.here t.left (ih x t.right)) p
def toPthStep (ih : Nat → Pth) (n : Nat) : Pth :=
  Bool.rec (motive := fun _ => Pth) (Bool.rec (motive := fun _ => Pth) (.r (ih (Nat.sub (Nat.div n 2) 1))) (.l (ih (Nat.div n 2))) (Nat.beq (Nat.mod n 2) 1)) .e (Nat.beq n 0)
def toPthF (f : Nat) : Nat → Pth := Nat.rec (motive := fun _ => Nat → Pth) (fun _ => .e) (fun _ ih => toPthStep ih) f
def toPth (n : Nat) : Pth := toPthF (Nat.add n 1) n
def lenL (l : List α) : Nat := List.rec (motive := fun _ => Nat) 0 (fun _ _ ih => Nat.succ ih) l
def dropL (n : Nat) : List α → List α := Nat.rec (motive := fun _ => List α → List α) (fun l => l) (fun _ ih l => List.rec (motive := fun _ => List α) [] (fun _ t _ => ih t) l) n
def takeL (n : Nat) : List α → List α := Nat.rec (motive := fun _ => List α → List α) (fun _ => []) (fun _ ih l => List.rec (motive := fun _ => List α) [] (fun a t _ => a :: ih t) l) n
def headO (l : List α) : Option α := List.rec (motive := fun _ => Option α) none (fun a _ _ => some a) l
def getL (n : Nat) (l : List α) : Option α := headO (dropL n l)
def appL (a b : List α) : List α := List.rec (motive := fun _ => List α) b (fun x _ ih => x :: ih) a
def eqN (a : List Nat) : List Nat → Bool := List.rec (motive := fun _ => List Nat → Bool) (fun b => List.rec (motive := fun _ => Bool) true (fun _ _ _ => false) b)
  (fun x _ ih b => List.rec (motive := fun _ => Bool) false (fun y t _ => Bool.rec (motive := fun _ => Bool) false (ih t) (Nat.beq x y)) b) a
/-- Is the first list before the second one? (Go's '<' on strings) -/
def ltN (a : List Nat) : List Nat → Bool := List.rec (motive := fun _ => List Nat → Bool) (fun b => List.rec (motive := fun _ => Bool) false (fun _ _ _ => true) b)
  (fun x _ ih b => List.rec (motive := fun _ => Bool) false (fun y t _ => Bool.rec (motive := fun _ => Bool) (Bool.rec (motive := fun _ => Bool) false (ih t) (Nat.beq x y)) true (Nat.blt x y)) b) a
/-- A number, forced to a numeral before it goes on. -/
def force (n : Nat) (f : Nat → β) : β := Nat.rec (motive := fun _ => β) (f 0) (fun k _ => f k) (Nat.add n 1)
end

section
variable {α β : Type}
/-! What they are. -/
theorem Tr.get_nil (p : Pth) : (Tr.nil : Tr α).get p = none := by
  induction p with
  | e => rfl
  | l p ih => exact ih
  | r p ih => exact ih
theorem Tr.get_put (x : Option α) : ∀ (p q : Pth) (t : Tr α), (t.put p x).get q = if p = q then x else t.get q := by
  intro p
  induction p with
  | e => intro q t; cases q <;> rfl
  | l p ih =>
    intro q t
    cases q with
    | e => rfl
    | l q => show ((t.left).put p x).get q = _; rw [ih]; simp; rfl
    | r q => rfl
  | r p ih =>
    intro q t
    cases q with
    | e => rfl
    | l q => rfl
    | r q => show ((t.right).put p x).get q = _; rw [ih]; simp; rfl
def unP : Pth → Nat
  | .e => 0
  | .l p => 2 * unP p + 1
  | .r p => 2 * unP p + 2
theorem unP_toPthF : ∀ (f n : Nat), n < f → unP (toPthF f n) = n := by
  intro f
  induction f with
  | zero => intro n h; omega
  | succ f ih =>
    intro n h
    show unP (toPthStep (toPthF f) n) = n
    unfold toPthStep
    cases h0 : Nat.beq n 0 with
    | true => simp [unP]; exact (Nat.eq_of_beq_eq_true h0).symm
    | false =>
      have hn : n ≠ 0 := Nat.ne_of_beq_eq_false h0
      cases h1 : Nat.beq (Nat.mod n 2) 1 with
      | true =>
        have h2 : n % 2 = 1 := Nat.eq_of_beq_eq_true h1
        show 2 * unP (toPthF f (n / 2)) + 1 = n
        rw [ih (n / 2) (by omega)]; omega
      | false =>
        have h2 : n % 2 ≠ 1 := Nat.ne_of_beq_eq_false h1
        show 2 * unP (toPthF f (n / 2 - 1)) + 2 = n
        rw [ih (n / 2 - 1) (by omega)]; omega
theorem toPth_inj {m n : Nat} (h : toPth m = toPth n) : m = n := by
  have a : unP (toPth m) = m := unP_toPthF (m + 1) m (by omega)
  have b : unP (toPth n) = n := unP_toPthF (n + 1) n (by omega)
  rw [← a, ← b, h]
theorem toPth_eq {m n : Nat} : (toPth m = toPth n) = (m = n) := propext ⟨toPth_inj, fun h => h ▸ rfl⟩
theorem Tr.get_putN (x : Option α) (i j : Nat) (t : Tr α) : (t.put (toPth i) x).get (toPth j) = if i = j then x else t.get (toPth j) := by
  rw [Tr.get_put]
  by_cases h : i = j
  · subst h; simp
  · have : toPth i ≠ toPth j := fun e => h (toPth_inj e)
    simp [h, this]
theorem lenL_eq (l : List α) : lenL l = l.length := by
  induction l with
  | nil => rfl
  | cons a l ih => show Nat.succ (lenL l) = _; rw [ih]; rfl
theorem dropL_eq : ∀ (n : Nat) (l : List α), dropL n l = l.drop n := by
  intro n
  induction n with
  | zero => intro l; rfl
  | succ n ih => intro l; cases l with
    | nil => rfl
    | cons a l => exact ih l
theorem takeL_eq : ∀ (n : Nat) (l : List α), takeL n l = l.take n := by
  intro n
  induction n with
  | zero => intro l; rfl
  | succ n ih => intro l; cases l with
    | nil => rfl
    | cons a l => show a :: takeL n l = _; rw [ih l]; rfl
theorem headO_eq (l : List α) : headO l = l.head? := by cases l <;> rfl
theorem getL_eq (n : Nat) (l : List α) : getL n l = l[n]? := by
  unfold getL
  rw [headO_eq, dropL_eq]
  simp [List.head?_drop]
theorem appL_eq (a b : List α) : appL a b = a ++ b := by
  induction a with
  | nil => rfl
  | cons x a ih => show x :: appL a b = _; rw [ih]; rfl
theorem eqN_eq : ∀ (a b : List Nat), eqN a b = decide (a = b) := by
  intro a
  induction a with
  | nil => intro b; cases b <;> simp [eqN]
  | cons x a ih =>
    intro b
    cases b with
    | nil => simp [eqN]
    | cons y b =>
      show (Bool.rec (motive := fun _ => Bool) false (eqN a b) (Nat.beq x y) : Bool) = _
      cases h : Nat.beq x y with
      | true => have := Nat.eq_of_beq_eq_true h; subst this; simp [ih]
      | false => have := Nat.ne_of_beq_eq_false h; simp [this]
theorem ltN_cons (a b : Nat) (x y : List Nat) : ltN (a :: x) (b :: y) = if a < b then true else if a = b then ltN x y else false := by
  show (Bool.rec (motive := fun _ => Bool) (Bool.rec (motive := fun _ => Bool) false (ltN x y) (Nat.beq a b)) true (Nat.blt a b) : Bool) = _
  cases h : Nat.blt a b with
  | true =>
    have h1 : a < b := by simpa [Nat.blt_eq] using h
    simp [h1]
  | false =>
    have h1 : ¬ a < b := fun e => by
      have : Nat.blt a b = true := by simpa [Nat.blt_eq] using e
      rw [this] at h; cases h
    cases h2 : Nat.beq a b with
    | true => have := Nat.eq_of_beq_eq_true h2; subst this; simp
    | false => have := Nat.ne_of_beq_eq_false h2; simp [h1, this]
theorem force_eq (n : Nat) (f : Nat → β) : force n f = f n := rfl
end
end Go.Ev
namespace Go.Ev
open Go
inductive ACap where | exact (n : Nat) | opn (sz : Nat)
inductive AV where
  | any | bool (b : Bool) | int (k : IntKind) (n : Int) | sym (i : Nat) | str (s : List Nat)
  | nilPtr | ptr (id off : Nat) | nilSlice | slice (id off len : Nat) (cap : ACap)
  | nilMap | map (id : Nat) | fn (f : Fn) (first cap : List AV) | yield (l : Nat) | nilFn
  | iface (t : Nat) (v : AV) | nilIface | agg (cs : List AV) | tup (cs : List AV)
  | one | vstr (j : Nat) | vlen (j : Nat) (c : Option Nat) | vgood (j : Nat) | vsl (id : Nat) | vsn (id : Nat)
inductive ATgt where | fn (f : Fn) (cap : List AV) | collected (r : Nat) | builtin (b : Builtin) (argTypes : Array TypeId) (type : TypeId) (consts : Array Bool)
structure ADef where
  tgt : ATgt
  args : List AV
structure AEnt where
  key : AV
  val : AV
  born : Nat
inductive ABlk where
  | cells (cs : List AV) (ty : Nat) (ext ro : Bool) (flo fhi : Nat)
  | map (es : List AEnt) (clock : Nat)
  | xrow (cs : List AV) (sz lo : Nat)
  | siter (s : List Nat) (pos : Nat)
  | miter (m : Option Nat) (since : Nat) (seen : List Nat) (last : Nat)
  | miterW (id since last : Nat) (cur : Option Nat) (must gone : List Nat) (k : Nat)
  | loop (state : LoopState) (pending : Option Code) (fn n : Nat) (T : Tr AV) (params : Array Tmp) (assign body : Code) (defers : Nat)
  | deferred (ds : Option (List ADef))
structure AMem where
  blk : Tr ABlk
  next : Nat
  wm : Nat
  bad : Bool
inductive ARes where
  | val (v : AV) (m : AMem)
  | enter (f : Nat) (args : List AV) (m : AMem)
  | round (l : Nat) (args : List AV) (m : AMem)
  | defer (d : ADef)
  | recover
  | panic (v : AV) (m : AMem)
  | choose (alts : List (AV × AMem))
  | fail
abbrev Handler := List AV → AMem → Option (AV × AMem)
/-- What the machine is told: the program, its variables' number, contracts of some functions, bounds of the unknown integers. -/
structure Env where
  P : Program
  G : Nat
  spec : Nat → Option Handler
  join : Nat → Bool
  bnd : Nat → Option (Int × Int)
  val : Nat → Value
  base : Nat
  old : Nat → Option Obj
noncomputable section

/-! numbers -/
def normI {β : Type} (n : Int) (f : Int → β) : β := match n with
  | .ofNat m => force m fun m => f (.ofNat m)
  | .negSucc m => force m fun m => f (.negSucc m)
def inR (k : IntKind) (n : Int) : Bool := match k, n with
  | .i64, .ofNat m => Nat.blt m 9223372036854775808
  | .i64, .negSucc m => Nat.blt m 9223372036854775808
  | .u8, .ofNat m => Nat.blt m 256
  | .i32, .ofNat m => Nat.blt m 2147483648
  | .u32, .ofNat m => Nat.blt m 4294967296
  | .u64, .ofNat m => Nat.blt m 18446744073709551616
  | _, _ => false
def wrapA (k : IntKind) (n : Int) : Int := match inR k n with
  | true => n
  | false => k.wrap n
def ltI (a b : Int) : Bool := match a, b with
  | .ofNat m, .ofNat n => Nat.blt m n
  | .negSucc m, .negSucc n => Nat.blt n m
  | .negSucc _, .ofNat _ => true
  | .ofNat _, .negSucc _ => false
def eqI (a b : Int) : Bool := match a, b with
  | .ofNat m, .ofNat n => Nat.beq m n
  | .negSucc m, .negSucc n => Nat.beq m n
  | _, _ => false
def kEq (a b : IntKind) : Bool := match a, b with
  | .i8, .i8 | .i16, .i16 | .i32, .i32 | .i64, .i64 | .u8, .u8 | .u16, .u16 | .u32, .u32 | .u64, .u64 => true
  | _, _ => false

/-! values -/
def bytesOf (s : ByteArray) : List Nat := s.data.toList.map UInt8.toNat
def absLeaf : Value → Option AV
  | .bool b => some (.bool b)
  | .int k n => some (.int k n)
  | .string s => some (.str (bytesOf s))
  | .pointer none => some .nilPtr
  | .slice none 0 0 => some .nilSlice
  | .map none => some .nilMap
  | .func (.func f) first cap => if first.isEmpty && cap.isEmpty then some (.fn (.func f) [] []) else none
  | .nilFunc => some .nilFn
  | .nilIface => some .nilIface
  | _ => none
def absAll : List Value → Option (List AV)
  | [] => some []
  | v :: vs => match absLeaf v, absAll vs with
    | some a, some as => some (a :: as)
    | _, _ => none
def absV : Value → Option AV
  | .agg cs => (absAll cs.toList).map .agg
  | .tuple cs => (absAll cs.toList).map .tup
  | .iface t v => (absLeaf v).map (.iface t)
  | v => absLeaf v
def cellsA : AV → List AV
  | .agg cs => cs
  | v => [v]
/-- A value that one cell may hold, and of which it is known. -/
def leafB : AV → Bool
  | .any | .agg _ | .tup _ => false
  | _ => true
def leaves (l : List AV) : Bool := List.rec (motive := fun _ => Bool) true (fun a _ ih => match leafB a with | true => ih | false => false) l
/-- Known as a whole (not 'any', whose cells cannot be counted). -/
def known : AV → Bool
  | .any => false
  | _ => true

/-! frames' temporaries -/
/-- What a temporary holds that was not written. -/
def undefA : AV := .tup []
def tget (T : Tr AV) (t : Nat) : AV := match T.get (toPth t) with
  | some v => v
  | none => undefA
def tput (T : Tr AV) (t : Nat) (v : AV) : Tr AV := T.put (toPth t) (some v)
def aev (E : Env) (T : Tr AV) : Operand → AV
  | .tmp t => tget T t
  | .const v => match absV v with
    | some a => a
    | none => .any
  | .global g => match Nat.blt g E.G with
    | true => .ptr g 0
    | false => .any
  | .func f => .fn (.func f) [] []

/-! memory -/
def AMem.get (m : AMem) (id : Nat) : Option ABlk := match m with
  | ⟨b, _, _, _⟩ => b.get (toPth id)
/-- Another content of a block. -/
def AMem.set (m : AMem) (id : Nat) (x : Option ABlk) : AMem := match m with
  | ⟨b, nx, wm, bad⟩ => match Nat.blt id wm with
    | true => ⟨b.put (toPth id) x, nx, wm, true⟩
    | false => ⟨b.put (toPth id) x, nx, wm, bad⟩
def AMem.new {β : Type} (m : AMem) (x : ABlk) (f : Nat → AMem → β) : β := match m with
  | ⟨b, nx, wm, bad⟩ => force nx fun i => f i ⟨b.put (toPth i) (some x), Nat.add i 1, wm, bad⟩
def mkCells (cs : List AV) (ty : Nat) : ABlk := .cells cs ty false false 0 0
def setCells (cs : List AV) (off : Nat) (vs : List AV) : List AV := appL (takeL off cs) (appL vs (dropL (Nat.add off (lenL vs)) cs))
/-- May these cells be written? -/
def thawed (lo hi off n : Nat) : Bool := match Nat.ble hi lo with
  | true => true
  | false => match Nat.ble (Nat.add off n) lo with
    | true => true
    | false => Nat.ble hi off
def loadN (m : AMem) (id off n : Nat) : Option (List AV) := match m.get id with
  | some (.cells cs _ _ _ _ _) => match Nat.ble (Nat.add off n) (lenL cs) with
    | true => some (takeL n (dropL off cs))
    | false => none
  | _ => none
def load1 (m : AMem) (id off : Nat) : Option AV := match m.get id with
  | some (.cells cs _ _ _ _ _) => getL off cs
  | _ => none
def storeN (m : AMem) (id off : Nat) (vs : List AV) : Option AMem := match m.get id with
  | some (.cells cs ty ext false lo hi) => match Nat.ble (Nat.add off (lenL vs)) (lenL cs), thawed lo hi off (lenL vs), leaves vs with
    | true, true, true => some (m.set id (some (.cells (setCells cs off vs) ty ext false lo hi)))
    | _, _, _ => none
  | _ => none

/-! types -/
def sizeA (P : Program) (t : Nat) : Option Nat := match P.info? t with
  | some i => some i.size
  | none => none
def aggDesc : TypeDesc → Bool
  | .struct _ | .array _ _ => true
  | _ => false
def zeroA (P : Program) (t : Nat) : Option AV := match P.info? t with
  | some i => match i.zero with
    | some z => absV z
    | none => none
  | none => none
/-- A part of a value that lies in cells. -/
def partA (P : Program) (t : Nat) (cs : List AV) (off : Nat) : Option AV := match P.underlying t, P.info? t with
  | some d, some i => match aggDesc d with
    | true => match Nat.ble (Nat.add off i.size) (lenL cs) with
      | true => some (.agg (takeL i.size (dropL off cs)))
      | false => none
    | false => getL off cs
  | _, _ => none

/-- Do two values of this type read alike? (Only where it is sure.) -/
def eqA (P : Program) : Nat → Nat → AV → AV → Option Bool
  | 0, _, _, _ => none
  | d + 1, t, x, y => match P.underlying t with
    | none => none
    | some td => match td, x, y with
      | .bool, .bool a, .bool b => some (a == b)
      | .int _, .int k a, .int k' b => match kEq k k' with
        | true => some (eqI a b)
        | false => none
      | .int _, .sym i, .sym j => match Nat.beq i j with
        | true => some true
        | false => none
      | .string, .str a, .str b => some (eqN a b)
      | .pointer _, .nilPtr, .nilPtr => some true
      | .pointer _, .nilPtr, .ptr _ _ => some false
      | .pointer _, .ptr _ _, .nilPtr => some false
      | .pointer e, .ptr i o, .ptr i' o' => match P.info? e with
        | some inf => match Nat.beq inf.size 0, Nat.beq i i' with
          | false, true => some (Nat.beq o o')
          | _, _ => none
        | none => none
      | .interface _, .nilIface, .nilIface => some true
      | .interface _, .nilIface, .iface _ _ => some false
      | .interface _, .iface _ _, .nilIface => some false
      | .interface _, .iface tx vx, .iface ty vy => match Nat.beq tx ty with
        | false => some false
        | true => match P.info? tx with
          | some inf => match inf.comparable with
            | true => eqA P d tx vx vy
            | false => none
          | none => none
      | .struct fields, .agg xs, .agg ys => match P.stoodInHeld t with
        | true => none
        | false => eqFields P (fun t x y => eqA P d t x y) xs ys fields.toList
      | .array len elem, .agg xs, .agg ys => match P.info? elem with
        | some inf => eqRow P (fun x y => eqA P d elem x y) elem inf.size xs ys len 0
        | none => none
      | .slice _, .nilSlice, .nilSlice => some true
      | .slice _, .nilSlice, .slice _ _ _ _ => some false
      | .slice _, .slice _ _ _ _, .nilSlice => some false
      | .map _ _, .nilMap, .nilMap => some true
      | .map _ _, .nilMap, .map _ => some false
      | .map _ _, .map _, .nilMap => some false
      | .func _ _ _, .nilFn, .nilFn => some true
      | .func _ _ _, .nilFn, .fn _ _ _ => some false
      | .func _ _ _, .fn _ _ _, .nilFn => some false
      | _, _, _ => none
where
  eqFields (P : Program) (eq : Nat → AV → AV → Option Bool) (xs ys : List AV) : List Field → Option Bool
    | [] => some true
    | f :: fs => if f.name = "_" then eqFields P eq xs ys fs else
      match partA P f.type xs f.offset, partA P f.type ys f.offset with
      | some x, some y => match eq f.type x y with
        | some true => eqFields P eq xs ys fs
        | r => r
      | _, _ => none
  eqRow (P : Program) (eq : AV → AV → Option Bool) (elem size : Nat) (xs ys : List AV) : Nat → Nat → Option Bool
    | 0, _ => some true
    | n + 1, i => match partA P elem xs (Nat.mul i size), partA P elem ys (Nat.mul i size) with
      | some x, some y => match eq x y with
        | some true => eqRow P eq elem size xs ys n (Nat.add i 1)
        | r => r
      | _, _ => none
def eqD : Nat := 12
end
end Go.Ev
namespace Go.Ev
open Go
noncomputable section
variable (E : Env)

def retV (v : AV) : Option AV := some v
def boolV (b : Bool) : Option AV := some (.bool b)
def intV (k : IntKind) (n : Int) : Option AV := normI n fun n => some (.int k n)

def opPick (c a b : AV) : Option AV := match c with
  | .bool true => some a
  | .bool false => some b
  | _ => none
/-- A new block, and what the operation gives, by the block's number. -/
abbrev Lay := Option (ABlk × (Nat → AV))
def opAlloc (elem : Nat) : Lay := match zeroA E.P elem with
  | some z => some (mkCells (cellsA z) elem, fun i => .ptr i 0)
  | none => none
def opBox (elem : Nat) (v : AV) : Lay := match known v with
  | true => some (mkCells (cellsA v) elem, fun i => .ptr i 0)
  | false => none
/-- Parts laid into a row of cells. -/
def fillA (place : Nat → Option (Nat × Nat)) (cells : List AV) : List (Nat × AV) → Option (List AV)
  | [] => some cells
  | (i, v) :: rest => match place i with
    | none => none
    | some (off, size) => match known v, Nat.beq (lenL (cellsA v)) size, Nat.ble (Nat.add off size) (lenL cells) with
      | true, true, true => fillA place (setCells cells off (cellsA v)) rest
      | _, _, _ => none
def structPlaces (P : Program) (fields : Array Field) (i : Nat) : Option (Nat × Nat) := match fields[i]? with
  | some f => match P.info? f.type with
    | some inf => some (f.offset, inf.size)
    | none => none
  | none => none
def evParts (T : Tr AV) : List (Nat × Operand) → List (Nat × AV)
  | [] => []
  | (i, x) :: r => (i, aev E T x) :: evParts T r
def sizesOk (P : Program) : List Field → Bool
  | [] => true
  | f :: fs => match P.info? f.type with
    | some _ => sizesOk P fs
    | none => false
def opBuild (t : Nat) (parts : List (Nat × AV)) : Option AV := match E.P.underlying t, zeroA E.P t with
  | some (.struct fields), some z => match sizesOk E.P fields.toList, fillA (structPlaces E.P fields) (cellsA z) parts with
    | true, some cs => some (.agg cs)
    | _, _ => none
  | some (.array _ elem), some z => match E.P.info? elem with
    | some inf => match fillA (fun i => some (Nat.mul i inf.size, inf.size)) (cellsA z) parts with
      | some cs => some (.agg cs)
      | none => none
    | none => none
  | _, _ => none
def repA (z : List AV) : Nat → List AV
  | 0 => []
  | n + 1 => appL z (repA z n)
def opBuildSlice (t len : Nat) (parts : List (Nat × AV)) : Lay := match E.P.underlying t with
  | some (.slice elem) => match E.P.info? elem, zeroA E.P elem with
    | some inf, some z => match Nat.beq (lenL (cellsA z)) inf.size, Nat.beq inf.size 0, Nat.ble (Nat.mul len inf.size) 16777216 with
      | true, false, true => match fillA (fun i => some (Nat.mul i inf.size, inf.size)) (repA (cellsA z) len) parts with
        | some cs => some (mkCells cs elem, fun i => .slice i 0 len (.exact len))
        | none => none
      | _, _, _ => none
    | _, _ => none
  | _ => none
def opLoad (t : Nat) (a : AV) (m : AMem) : Option AV := match a with
  | .ptr id off => match E.P.underlying t with
    | some d => match aggDesc d with
      | true => match sizeA E.P t with
        | some n => match loadN m id off n with
          | some cs => some (.agg cs)
          | none => none
        | none => none
      | false => match load1 m id off with
        | some v => some v
        | none => none
    | none => none
  | _ => none
def opStore (t : Nat) (a v : AV) (m : AMem) : ARes := match a with
  | .ptr id off => match sizeA E.P t, known v with
    | some n, true => match Nat.beq (lenL (cellsA v)) n with
      | true => match storeN m id off (cellsA v) with
        | some m => .val .any m
        | none => .fail
      | false => .fail
    | _, _ => .fail
  | _ => .fail
def opNilCheck (x : AV) : Option AV := match x with
  | .ptr _ _ => some x
  | .fn (.func _) _ _ => some x
  | .yield _ => some x
  | .iface _ _ => some x
  | _ => none
/-- Integers, or an unknown integer within bounds. -/
def ltV (x y : AV) : Option Bool := match x, y with
  | .int k a, .int k' b => match kEq k k' with
    | true => some (ltI a b)
    | false => none
  | .sym i, .int .i64 b => match E.bnd i with
    | some (lo, hi) => match ltI hi b with
      | true => some true
      | false => match ltI lo b with
        | false => some false
        | true => none
    | none => none
  | .int .i64 a, .sym i => match E.bnd i with
    | some (lo, hi) => match ltI a lo with
      | true => some true
      | false => match ltI a hi with
        | false => some false
        | true => none
    | none => none
  | _, _ => none
def natBits (op : BinOp) (a b : Nat) : Option Nat := match op with
  | .and => some (Nat.land a b)
  | .or => some (Nat.lor a b)
  | .xor => some (Nat.xor a b)
  | _ => none
def opInt (op : BinOp) (k : IntKind) (a b : Int) : Option AV := match op with
  | .add => intV k (wrapA k (a + b))
  | .sub => intV k (wrapA k (a - b))
  | .mul => intV k (wrapA k (a * b))
  | .quo => match eqI b 0 with
    | true => none
    | false => intV k (wrapA k (a.tdiv b))
  | .rem => match eqI b 0 with
    | true => none
    | false => intV k (a.tmod b)
  | .and | .or | .xor => match a, b with
    | .ofNat x, .ofNat y => match inR k (.ofNat x), inR k (.ofNat y), natBits op x y with
      | true, true, some r => intV k (.ofNat r)
      | _, _, _ => none
    | _, _ => none
  | _ => none
def opShift (op : BinOp) (k : IntKind) (a b : Int) : Option AV := match b with
  | .ofNat n => match op with
    | .shl => intV k (wrapA k (a * 2 ^ (min n k.bits)))
    | .shr => intV k (a.fdiv (2 ^ (min n k.bits)))
    | _ => none
  | _ => none
def opCmp (op : BinOp) (x y : AV) : Option AV := match op with
  | .lss => match ltV E x y with
    | some b => boolV b
    | none => none
  | .gtr => match ltV E y x with
    | some b => boolV b
    | none => none
  | .leq => match ltV E y x with
    | some b => boolV (!b)
    | none => none
  | .geq => match ltV E x y with
    | some b => boolV (!b)
    | none => none
  | _ => none
def opStr (op : BinOp) (a b : List Nat) : Option AV := match op with
  | .add => match Nat.ble (Nat.add (lenL a) (lenL b)) 1000000 with
    | true => some (.str (appL a b))
    | false => none
  | .lss => boolV (ltN a b)
  | .gtr => boolV (ltN b a)
  | .leq => boolV (!(ltN b a))
  | .geq => boolV (!(ltN a b))
  | _ => none
def isConstA : Operand → Bool
  | .const _ => true
  | _ => false
/-- A value of which more is known than that it is one. -/
def oldV : AV → Bool
  | .any | .one | .vstr _ | .vlen _ _ | .vgood _ | .vsl _ | .vsn _ => false
  | _ => true
/-- Where '==' is sure not to meet two nil interface values. -/
def guardA (t : Nat) (x y : Operand) (a b : AV) : Bool := match a, b with
  | .nilIface, .nilIface => isConstA x || isConstA y
  | .agg _, .agg _ => !(E.P.eqGuardType E.P.depth t)
  | a, b => oldV a && oldV b
def eqV (t : Nat) (a b : AV) : Option Bool := match a, b with
  | .int k x, .int k' y => match kEq k k' with
    | true => some (eqI x y)
    | false => none
  | .str x, .str y => some (eqN x y)
  | .sym i, .sym j => match Nat.beq i j with
    | true => some true
    | false => none
  | .int _ _, .sym _ => none
  | .sym _, .int _ _ => none
  | a, b => eqA E.P eqD t a b
def opEq (neg : Bool) (t : Nat) (x y : Operand) (a b : AV) : Option AV := match guardA E t x y a b, eqV E t a b with
  | true, some r => boolV (match neg with | true => !r | false => r)
  | _, _ => none
def opBin (op : BinOp) (t : Nat) (x y : Operand) (a b : AV) : Option AV := match op with
  | .eql => opEq E false t x y a b
  | .neq => opEq E true t x y a b
  | .shl | .shr => match a, b with
    | .int k a, .int _ b => opShift op k a b
    | _, _ => none
  | .lss | .gtr | .leq | .geq => match a, b with
    | .str a, .str b => opStr op a b
    | _, _ => opCmp E op a b
  | _ => match a, b with
    | .int k a, .int k' b => match kEq k k' with
      | true => opInt op k a b
      | false => none
    | .str a, .str b => opStr op a b
    | _, _ => none
def opUn (op : UnOp) (x : AV) : Option AV := match op, x with
  | .not, .bool b => boolV (!b)
  | .neg, .int k n => intV k (wrapA k (0 - n))
  | _, _ => none
def byteVals : List Nat → List AV
  | [] => []
  | b :: l => .int .u8 (.ofNat b) :: byteVals l
def valBytes : List AV → Option (List Nat)
  | [] => some []
  | .int .u8 (.ofNat b) :: l => match Nat.blt b 256, valBytes l with
    | true, some r => some (b :: r)
    | _, _ => none
  | _ => none
def convP (s d : Nat) (x : AV) : Option AV := match E.P.underlying s, E.P.underlying d with
  | some _, some ud => match ud, x with
    | .int k, .int _ n => intV k (wrapA k n)
    | .string, .str l => some (.str l)
    | _, _ => none
  | _, _ => none
def convR (s d : Nat) (x : AV) (m : AMem) : Option AV := match E.P.underlying s, E.P.underlying d with
  | some us, some ud => match us, ud, x with
    | .slice e, .string, .nilSlice => match E.P.underlying e with
      | some (.int .u8) => some (.str [])
      | _ => none
    | .slice e, .string, .slice id off len _ => match E.P.underlying e, loadN m id off len with
      | some (.int .u8), some vs => match valBytes vs with
        | some l => some (.str l)
        | none => none
      | _, _ => none
    | .pointer t, .unsafePointer, .ptr id off => match m.get id, E.P.info? t with
      | some (.cells cs _ false _ _ _), some inf => match Nat.blt off (lenL cs), Nat.beq inf.size 0 with
        | true, false => some x
        | _, _ => none
      | _, _ => none
    | .unsafePointer, .pointer u, .ptr id off => match m.get id, E.P.info? u with
      | some (.cells cs ty false _ _ _), some inf => match Nat.beq inf.size 0, liesAt E.P E.P.depth ty (lenL cs / E.P.cellsOf ty) off u 1 with
        | false, true => some x
        | _, _ => none
      | _, _ => none
    | _, _, _ => none
  | _, _ => none
def convE (s d : Nat) (x : AV) : Lay := match E.P.underlying s, E.P.underlying d, x with
  | some _, some (.slice e), .str l => match E.P.underlying e with
    | some (.int .u8) => some (.cells (byteVals l) e true false (Nat.add (lenL l) 1) (Nat.add (lenL l) 2), fun i => .slice i 0 (lenL l) (.opn 1))
    | _ => none
  | _, _, _ => none
def opMakeSlice (t : Nat) (l c : AV) : Lay := match E.P.underlying t, l, c with
  | some (.slice elem), .int _ (.ofNat l), .int _ (.ofNat c) => match E.P.info? elem, zeroA E.P elem with
    | some inf, some z => match Nat.ble l c, Nat.ble c 1000000, Nat.ble (Nat.mul inf.bytes c) 281474976710656, Nat.beq (lenL (cellsA z)) inf.size, Nat.beq inf.size 0 with
      | true, true, true, true, false => some (mkCells (repA (cellsA z) c) elem, fun i => .slice i 0 l (.exact c))
      | _, _, _, _, _ => none
    | _, _ => none
  | _, _, _ => none
/-- A bound of a slice expression, if it is at most y. -/
def bnd1 (x : Option AV) (dflt y : Nat) : Option Nat := match x with
  | none => some dflt
  | some (.int _ (.ofNat n)) => match Nat.ble n y with
    | true => some n
    | false => none
  | _ => none
def opSliceStr (s : List Nat) (lo hi : Option AV) : Option AV := match bnd1 hi (lenL s) (lenL s) with
  | some h => match bnd1 lo 0 h with
    | some l => some (.str (dropL l (takeL h s)))
    | none => none
  | none => none
def sliceTo (id off size l h : Nat) (cap : ACap) : Option AV := force (Nat.add off (Nat.mul l size)) fun o => force (Nat.sub h l) fun n => some (.slice id o n cap)
def someB {α : Type} (x : Option α) : Bool := match x with
  | none => false
  | some _ => true
def opSliceSl (size id off len : Nat) (cap : ACap) (lo hi mx : Option AV) : Option AV := match someB mx && !(someB hi) with
  | true => none
  | false => match cap with
    | .exact c => match bnd1 mx c c with
      | some x => match bnd1 hi len x with
        | some h => match bnd1 lo 0 h with
          | some l => sliceTo id off size l h (.exact (Nat.sub x l))
          | none => none
        | none => none
      | none => none
    | .opn sz => match mx, Nat.beq sz size with
      | none, true => match bnd1 hi len len with
        | some h => match bnd1 lo 0 h with
          | some l => sliceTo id off size l h (.opn sz)
          | none => none
        | none => none
      | some _, true => match bnd1 mx 0 len with
        | some x => match bnd1 hi len x with
          | some h => match bnd1 lo 0 h with
            | some l => sliceTo id off size l h (.exact (Nat.sub x l))
            | none => none
          | none => none
        | none => none
      | _, false => none
def opSlice (t : Nat) (x : AV) (lo hi mx : Option AV) : Option AV := match E.P.underlying t with
  | some .string => match x, mx with
    | .str s, none => opSliceStr s lo hi
    | _, _ => none
  | some (.slice e) => match sizeA E.P e, x with
    | some size, .slice id off len cap => match Nat.beq size 0 with
      | true => none
      | false => opSliceSl size id off len cap lo hi mx
    | some _, .nilSlice => match someB mx && !(someB hi), bnd1 mx 0 0, bnd1 hi 0 0, bnd1 lo 0 0 with
      | false, some _, some _, some _ => some .nilSlice
      | _, _, _, _ => none
    | _, _ => none
  | some (.array n e) => match sizeA E.P e, x with
    | some size, .ptr id off => match Nat.beq size 0 with
      | true => none
      | false => opSliceSl size id off n (.exact n) lo hi mx
    | _, _ => none
  | _ => none
def opFieldAddr (s : Nat) (x : AV) (f : Nat) : Option AV := match x, E.P.underlying s with
  | .ptr id off, some (.struct fields) => match fields[f]? with
    | some fd => match sizeA E.P fd.type with
      | some size => match Nat.beq size 0 with
        | true => none
        | false => force (Nat.add off fd.offset) fun o => some (.ptr id o)
      | none => none
    | none => none
  | _, _ => none
def opField (t : Nat) (x : AV) (f : Nat) : Option AV := match x, E.P.underlying t with
  | .agg cs, some (.struct fields) => match fields[f]? with
    | some fd => match partA E.P fd.type cs fd.offset with
      | some v => some v
      | none => none
    | none => none
  | _, _ => none
def opIndexAddr (t : Nat) (x ix : AV) : Option AV := match ix, E.P.underlying t with
  | .int _ (.ofNat i), some (.array n e) => match x, sizeA E.P e, Nat.blt i n with
    | .ptr id off, some size, true => force (Nat.add off (Nat.mul i size)) fun o => some (.ptr id o)
    | _, _, _ => none
  | .int _ (.ofNat i), some (.slice e) => match x, sizeA E.P e with
    | .slice id off len _, some size => match Nat.blt i len with
      | true => force (Nat.add off (Nat.mul i size)) fun o => some (.ptr id o)
      | false => none
    | _, _ => none
  | _, _ => none
def opIndex (t : Nat) (x ix : AV) : Option AV := match ix, E.P.underlying t with
  | .int _ (.ofNat i), some .string => match x with
    | .str s => match getL i s with
      | some b => some (.int .u8 (.ofNat b))
      | none => none
    | _ => none
  | .int _ (.ofNat i), some (.array n e) => match x, sizeA E.P e, Nat.blt i n with
    | .agg cs, some size, true => match partA E.P e cs (Nat.mul i size) with
      | some v => some v
      | none => none
    | _, _, _ => none
  | _, _ => none
/-! maps: keys are numbers, strings, bools, and structs and arrays of these -/
def keyLeaf : AV → Bool
  | .int _ _ | .str _ | .bool _ => true
  | _ => false
def keyAll : List AV → Bool
  | [] => true
  | a :: l => match keyLeaf a with
    | true => keyAll l
    | false => false
def keyOk : AV → Bool
  | .agg cs => keyAll cs
  | a => keyLeaf a
def eqLeaf : AV → AV → Bool
  | .int k a, .int k' b => match kEq k k' with
    | true => eqI a b
    | false => false
  | .str a, .str b => eqN a b
  | .bool a, .bool b => a == b
  | _, _ => false
def eqAll : List AV → List AV → Bool
  | [], [] => true
  | a :: l, b :: r => match eqLeaf a b with
    | true => eqAll l r
    | false => false
  | _, _ => false
def eqKey : AV → AV → Bool
  | .agg a, .agg b => eqAll a b
  | a, b => eqLeaf a b
/-- Is a key one of the key type's: what '==' asks of it. -/
def keyTyped (P : Program) (t : Nat) (k : AV) : Bool := match keyOk k, eqA P eqD t k k with
  | true, some true => true
  | _, _ => false
inductive Found where | no | at (i : Nat) (v : AV) | bad
def findA (P : Program) (t : Nat) (k : AV) : List AEnt → Nat → Found
  | [], _ => .no
  | e :: es, i => match keyOk e.key, eqA P eqD t k e.key with
    | true, some true => match eqKey k e.key with
      | true => .at i e.val
      | false => .bad
    | true, some false => findA P t k es (Nat.add i 1)
    | _, _ => .bad
/-- 'checkKey' has nothing to say of such keys. -/
def checkedA (P : Program) : Nat → Nat → AV → Bool
  | 0, _, _ => false
  | n + 1, t, k => match P.underlying t with
    | some d => match d with
      | .bool | .int _ | .string => true
      | .struct fields => match k with
        | .agg cs => checkFs P (fun t k => checkedA P n t k) cs fields.toList
        | _ => false
      | .array len elem => match k, P.info? elem with
        | .agg cs, some inf => checkRow P (fun k => checkedA P n elem k) elem inf.size cs len 0
        | _, _ => false
      | _ => false
    | none => false
where
  checkFs (P : Program) (ck : Nat → AV → Bool) (cs : List AV) : List Field → Bool
    | [] => true
    | f :: fs => if f.name = "_" then checkFs P ck cs fs else match partA P f.type cs f.offset with
      | some k => match ck f.type k with
        | true => checkFs P ck cs fs
        | false => false
      | none => false
  checkRow (P : Program) (ck : AV → Bool) (elem size : Nat) (cs : List AV) : Nat → Nat → Bool
    | 0, _ => true
    | n + 1, i => match partA P elem cs (Nat.mul i size) with
      | some k => match ck k with
        | true => checkRow P ck elem size cs n (Nat.add i 1)
        | false => false
      | none => false
def keyFit (P : Program) (t : Nat) (k : AV) : Bool := match keyTyped P t k with
  | true => checkedA P eqD t k
  | false => false
def opLookup (t : Nat) (x k : AV) (ok : Bool) (m : AMem) : Option AV := match E.P.underlying t with
  | some (.map kt et) => match keyFit E.P kt k, zeroA E.P et with
    | true, some z => match x with
      | .nilMap => some (match ok with | true => .tup [z, .bool false] | false => z)
      | .map id => match m.get id with
        | some (.map es _) => match findA E.P kt k es 0 with
          | .no => some (match ok with | true => .tup [z, .bool false] | false => z)
          | .at _ v => some (match ok with | true => .tup [v, .bool true] | false => v)
          | .bad => none
        | _ => none
      | _ => none
    | _, _ => none
  | _ => none
def setEnt (i : Nat) (k v : AV) : List AEnt → List AEnt
  | [] => []
  | e :: es => match i with
    | 0 => { e with key := k, val := v } :: es
    | i + 1 => e :: setEnt i k v es
def opMapUpdate (t : Nat) (x k v : AV) (m : AMem) : ARes := match E.P.underlying t, x with
  | some (.map kt _), .map id => match keyFit E.P kt k, m.get id with
    | true, some (.map es clock) => match findA E.P kt k es 0 with
      | .no => .val .any (m.set id (some (.map (appL es [{ key := k, val := v, born := clock }]) (Nat.add clock 1))))
      | .at i _ => .val .any (m.set id (some (.map (setEnt i k v es) clock)))
      | .bad => .fail
    | _, _ => .fail
  | _, _ => .fail
def opRange (t : Nat) (x : AV) (m : AMem) : ARes := match E.P.underlying t, x with
  | some .string, .str s => m.new (.siter s 0) fun i m => .val (.ptr i 0) m
  | some (.map _ _), .nilMap => m.new (.miter none 0 [] 0) fun i m => .val (.ptr i 0) m
  | some (.map _ _), .map id => match m.get id with
    | some (.map _ clock) => m.new (.miter (some id) clock [] clock) fun i m => .val (.ptr i 0) m
    | _ => .fail
  | _, _ => .fail
def memN (n : Nat) (l : List Nat) : Bool := List.rec (motive := fun _ => Bool) false (fun a _ ih => match Nat.beq n a with | true => true | false => ih) l
def leftA (seen : List Nat) : List AEnt → List AEnt
  | [] => []
  | e :: es => match memN e.born seen with
    | true => leftA seen es
    | false => e :: leftA seen es
def allOld (since : Nat) : List AEnt → Bool
  | [] => true
  | e :: es => match Nat.blt e.born since with
    | true => allOld since es
    | false => false
def nextAlts (r id since : Nat) (seen : List Nat) (clock : Nat) (m : AMem) : List AEnt → List (AV × AMem)
  | [] => []
  | e :: es => (.tup [.bool true, e.key, e.val], m.set r (some (.miter (some id) since (appL seen [e.born]) clock))) :: nextAlts r id since seen clock m es
/-- The entries were laid one after the other, none was deleted. -/
def bornSeq (i n : Nat) : List AEnt → Bool
  | [] => Nat.beq i n
  | e :: es => match Nat.beq e.born i with
    | true => bornSeq (Nat.add i 1) n es
    | false => false
def dropN (n : Nat) (l : List Nat) : List Nat := List.rec (motive := fun _ => List Nat) [] (fun a _ ih => match Nat.beq a n with | true => ih | false => a :: ih) l
/-- The next entry: whichever may be left; of some it is known whether they are. -/
def nextAltsW (r id since clock : Nat) (must gone : List Nat) (k : Nat) (m : AMem) : List AEnt → List (AV × AMem)
  | [] => []
  | e :: es => match memN e.born gone with
    | true => nextAltsW r id since clock must gone k m es
    | false => (.tup [.bool true, e.key, e.val], m.set r (some (match memN e.born must with
        | true => .miterW id since clock (some e.born) (dropN e.born must) (e.born :: gone) k
        | false => .miterW id since clock (some e.born) must gone k))) :: nextAltsW r id since clock must gone k m es
def keepB (b : Nat) : List AEnt → List AEnt
  | [] => []
  | e :: es => match Nat.beq e.born b with
    | true => e :: keepB b es
    | false => keepB b es
/-- Which entries may come, where k more will follow. -/
def lastB (must : List Nat) (k : Nat) (es : List AEnt) : List AEnt := match must, k with
  | [b], 0 => keepB b es
  | _, _ => es
def opNext (it : AV) (isString : Bool) (m : AMem) : ARes := match it, isString with
  | .ptr r 0, true => match m.get r with
    | some (.siter s pos) => match getL pos s with
      | none => .val (.tup [.bool false]) m
      | some b => match Nat.blt b 128 with
        | true => .val (.tup [.bool true, .int .i64 (.ofNat pos), .int .i32 (.ofNat b)]) (m.set r (some (.siter s (Nat.add pos 1))))
        | false => .fail
    | _ => .fail
  | .ptr r 0, false => match m.get r with
    | some (.miter none _ _ _) => .val (.tup [.bool false]) m
    | some (.miter (some id) since seen last) => match m.get id with
      | some (.map es clock) => match allOld since es && Nat.ble since last with
        | true => match leftA seen es with
          | [] => .val (.tup [.bool false]) m
          | [e] => .val (.tup [.bool true, e.key, e.val]) (m.set r (some (.miter (some id) since (appL seen [e.born]) clock)))
          | l => .choose (nextAlts r id since seen clock m l)
        | false => .fail
      | _ => .fail
    | some (.miterW id since last _ must gone k) => match m.get id with
      | some (.map es clock) => match bornSeq 0 since es && Nat.ble since last with
        | true => match k with
          | 0 => .val (.tup [.bool false]) m
          | k + 1 => .choose (nextAltsW r id since clock must gone k m (lastB must k es))
        | false => .fail
      | _ => .fail
    | _ => .fail
  | _, _ => .fail
def lastN : List Nat → Option Nat
  | [] => none
  | [a] => some a
  | _ :: l => lastN l
def findBorn (n : Nat) : List AEnt → Option AEnt
  | [] => none
  | e :: es => match Nat.beq e.born n with
    | true => some e
    | false => findBorn n es
def opEntry (it : AV) (m : AMem) : Option AV := match it with
  | .ptr r 0 => match m.get r with
    | some (.miter (some id) _ seen stepped) => match lastN seen, m.get id with
      | some st, some (.map es clock) => match Nat.beq clock stepped, findBorn st es with
        | true, some e => some (.tup [e.key, e.val])
        | _, _ => none
      | _, _ => none
    | some (.miterW id _ stepped (some st) _ _ _) => match m.get id with
      | some (.map es clock) => match Nat.beq clock stepped, findBorn st es with
        | true, some e => some (.tup [e.key, e.val])
        | _, _ => none
      | _ => none
    | _ => none
  | _ => none
def opTypeAssert (x : AV) (asserted : Nat) (ok : Bool) : Option AV := match E.P.underlying asserted with
  | some (.interface _) => none
  | some _ => match x, ok, zeroA E.P asserted with
    | .nilIface, true, some z => some (.tup [z, .bool false])
    | .iface t v, true, some z => match Nat.beq t asserted with
      | true => some (.tup [v, .bool true])
      | false => some (.tup [z, .bool false])
    | .iface t v, false, _ => match Nat.beq t asserted with
      | true => some v
      | false => none
    | _, _, _ => none
  | none => none
def opExtract (x : AV) (i : Nat) : Option AV := match x with
  | .tup vs => match getL i vs with
    | some v => some v
    | none => none
  | _ => none
def opMakeIface (t : Nat) (x : AV) : Option AV := match E.P.underlying t with
  | some (.interface _) => none
  | some _ => some (.iface t x)
  | none => none
/-! builtins -/
def bLen (t : Nat) (x : AV) (m : AMem) : Option AV := match E.P.underlying t, x with
  | some .string, .str s => intV .i64 (.ofNat (lenL s))
  | some (.array n _), _ => some (.int .i64 (.ofNat n))
  | some (.slice _), .slice _ _ n _ => some (.int .i64 (.ofNat n))
  | some (.slice _), .nilSlice => some (.int .i64 0)
  | some (.map _ _), .nilMap => some (.int .i64 0)
  | some (.map _ _), .map id => match m.get id with
    | some (.map es _) => intV .i64 (.ofNat es.length)
    | _ => none
  | _, _ => none
def bCap (t : Nat) (x : AV) : Option AV := match E.P.underlying t, x with
  | some (.slice _), .slice _ _ _ (.exact c) => some (.int .i64 (.ofNat c))
  | some (.slice _), .nilSlice => some (.int .i64 0)
  | _, _ => none
/-- The cells that are appended or copied: of a slice, or the bytes of a string. -/
def srcCells (size : Nat) (x : AV) (m : AMem) : Option (Nat × List AV) := match x with
  | .nilSlice => some (0, [])
  | .slice id off len _ => match loadN m id off (Nat.mul len size) with
    | some cs => some (len, cs)
    | none => none
  | .str s => match Nat.beq size 1 with
    | true => some (lenL s, byteVals s)
    | false => none
  | _ => none
/-- A new row that may have more room than it needs. -/
def growNew (elem size len : Nat) (cs : List AV) (m : AMem) : ARes := m.new (.cells cs elem true false 0 0) fun i m => .val (.slice i 0 len (.opn size)) m
def okBytes (n bytes : Nat) : Bool := Nat.ble n 1000000 && Nat.ble bytes 1000
/-- The zero of a type fills its cells. -/
def zeroFit (t size : Nat) : Bool := match zeroA E.P t with
  | some z => Nat.beq (lenL (cellsA z)) size
  | none => false
def bAppend (t : Nat) (zeros : Bool) (s x : AV) (m : AMem) : ARes := match E.P.underlying t, zeros with
  | some (.slice elem), false => match E.P.info? elem with
    | none => .fail
    | some inf => match Nat.beq inf.size 0 || !zeroFit E elem inf.size, srcCells inf.size x m with
      | false, some (n, new) => match s with
        | .nilSlice => match n with
          | 0 => .val .nilSlice m
          | _ => match okBytes n inf.bytes with
            | true => growNew elem inf.size n new m
            | false => .fail
        | .slice id off len cap => match okBytes (Nat.add len n) inf.bytes, loadN m id off (Nat.mul len inf.size), leaves new with
          | true, some old, true => match cap with
            | .exact c => match Nat.ble (Nat.add len n) c with
              | true => match storeN m id (Nat.add off (Nat.mul len inf.size)) new with
                | some m => .val (.slice id off (Nat.add len n) cap) m
                | none => .fail
              | false => force (Nat.add len n) fun k => growNew elem inf.size k (appL old new) m
            | .opn sz => match Nat.beq sz inf.size with
              | false => .fail
              | true => match m.get id with
                | some (.cells cs ty true false lo hi) => match Nat.ble (Nat.add off (Nat.mul (Nat.add len n) sz)) (lenL cs) with
                  | true => match storeN m id (Nat.add off (Nat.mul len sz)) new with
                    | some m => force (Nat.add len n) fun k => .val (.slice id off k cap) m
                    | none => .fail
                  | false => match Nat.ble hi (Nat.add off (Nat.mul len sz)) || Nat.ble hi lo, Nat.beq ty elem, Nat.beq off 0 with
                    | true, true, true => force (Nat.add len n) fun k => (m.set id none).new (.cells (appL old new) elem true false lo hi) fun i m => .val (.slice i 0 k (.opn sz)) m
                    | _, _, _ => .fail
                | _ => .fail
          | _, _, _ => .fail
        | _ => .fail
      | _, _ => .fail
  | _, _ => .fail
def bCopy (t : Nat) (d s : AV) (m : AMem) : ARes := match E.P.underlying t with
  | some (.slice elem) => match sizeA E.P elem with
    | some size => match d, srcCells size s m with
      | .slice id off len _, some (n, cs) => force (Nat.min n len) fun k => match storeN m id off (takeL (Nat.mul k size) cs) with
        | some m => .val (.int .i64 (.ofNat k)) m
        | none => .fail
      | .nilSlice, some _ => .val (.int .i64 0) m
      | _, _ => .fail
    | none => .fail
  | _ => .fail
def bMin (mx : Bool) (x y : AV) : Option AV := match x, y with
  | .int .i64 a, .int .i64 b => match ltI a b, mx with
    | true, false | false, true => some x
    | _, _ => some y
  | _, _ => none
def bUnsafeSliceData (x : AV) : Option AV := match x with
  | .nilSlice => some .nilPtr
  | .slice id off len cap => match Nat.beq len 0 with
    | false => some (.ptr id off)
    | true => match cap with
      | .exact (_ + 1) => some (.ptr id off)
      | _ => none
  | _ => none
/-- 'unsafe.String': the bytes are read, and their cells may no longer be written. -/
def bUnsafeString (t : Nat) (p n : AV) (m : AMem) : ARes := match p, n with
  | .nilPtr, .int _ (.ofNat 0) => .val (.str []) m
  | .ptr id off, .int _ (.ofNat n) => match n, E.P.underlying t, m.get id with
    | 0, _, _ => .val (.str []) m
    | _ + 1, some (.pointer e), some (.cells cs ty ext false lo hi) => match loadN m id off n, E.P.underlying e, Nat.beq ty e, E.P.info? e with
      | some vs, some (.int .u8), true, some inf => match valBytes vs, Nat.beq inf.size 1 && inR .i64 (.ofNat n), E.P.depth with
        | some l, true, _ + 1 => match Nat.beq off 0, Nat.ble hi lo || Nat.beq lo 0 with
          | true, true => .val (.str l) (m.set id (some (.cells cs ty ext false 0 (Nat.max hi n))))
          | _, _ => .fail
        | _, _, _ => .fail
      | _, _, _, _ => .fail
    | _, _, _ => .fail
  | _, _ => .fail
def arg (i : Nat) (l : List AV) : AV := match getL i l with
  | some v => v
  | none => .any
def pureB (b : Builtin) (ts : Array TypeId) (args : List AV) : Option AV := match b, ts.toList, args with
  | .cap, t :: _, [x] => bCap E t x
  | .min, _, [x, y] => bMin false x y
  | .max, _, [x, y] => bMin true x y
  | .unsafeSliceData, _, [x] => bUnsafeSliceData x
  | _, _, _ => none
def readB (b : Builtin) (ts : Array TypeId) (args : List AV) (m : AMem) : Option AV := match b, ts.toList, args with
  | .len, t :: _, [x] => bLen E t x m
  | _, _, _ => none
def opBuiltin (b : Builtin) (ts : Array TypeId) (args : List AV) (m : AMem) : ARes := match b, ts.toList, args with
  | .append, t :: u :: _, [s, x] => match E.P.underlying u with
    | some (.int _) => .fail
    | some _ => bAppend E t false s x m
    | none => .fail
  | .copy, t :: _, [d, s] => bCopy E t d s m
  | .unsafeString, t :: _, [p, n] => bUnsafeString E t p n m
  | .recover, _, [] => .recover
  | _, _, _ => .fail
def enterFunc (f : Nat) (args : List AV) (m : AMem) : ARes := match E.P.funcs[f]? with
  | some fn => match fn.body with
    | some _ => if fn.name = "runtime.NumGoroutine" then .fail else .enter f args m
    | none => .fail
  | none => .fail
/-- What the machine was told of the function; else the function is entered. -/
def opCallFunc (f : Nat) (args : List AV) (m : AMem) : ARes := match E.spec f with
  | some h => match h args m with
    | some (v, m) => .val v m
    | none => enterFunc E f args m
  | none => enterFunc E f args m
def opInvoke (f : AV) (args : List AV) (m : AMem) : ARes := match f with
  | .fn (.func f) first cap => opCallFunc E f (appL (appL first args) cap) m
  | .yield l => .round l args m
  | _ => .fail
def evAll (T : Tr AV) : List Operand → List AV
  | [] => []
  | x :: l => aev E T x :: evAll T l
def opCall (T : Tr AV) (c : Call) (m : AMem) : ARes := match c.callee with
  | .builtin b => opBuiltin E b c.argTypes (evAll E T c.args.toList) m
  | .value (.func f) => opCallFunc E f (evAll E T c.args.toList) m
  | .value f => opInvoke E (aev E T f) (evAll E T c.args.toList) m
  | .invoke _ _ => .fail
def opDefer (T : Tr AV) (c : Call) : ARes := match c.callee with
  | .value f => match aev E T f with
    | .fn (.func g) first cap => .defer { tgt := .fn (.func g) cap, args := appL first (evAll E T c.args.toList) }
    | _ => .fail
  | _ => .fail
def opPanic (x : AV) (m : AMem) : ARes := match x with
  | .iface _ _ => .panic x m
  | _ => .fail
def evO (T : Tr AV) : Option Operand → Option AV
  | some x => some (aev E T x)
  | none => none
/-- The operations that do not look at memory. -/
def pop (T : Tr AV) (o : Op) : Option AV := match o with
  | .move x | .assign x => some (aev E T x)
  | .pick c a b => opPick (aev E T c) (aev E T a) (aev E T b)
  | .build t ps => opBuild E t (evParts E T ps.toList)
  | .nilCheck x => opNilCheck (aev E T x)
  | .binOp op t x y _ => opBin E op t x y (aev E T x) (aev E T y)
  | .unOp op _ x => opUn op (aev E T x)
  | .convert s d x => convP E s d (aev E T x)
  | .makeInterface t x => opMakeIface E t (aev E T x)
  | .makeFunc (.func f) first cap => some (.fn (.func f) (evAll E T first.toList) (evAll E T cap.toList))
  | .slice t x lo hi mx => opSlice E t (aev E T x) (evO E T lo) (evO E T hi) (evO E T mx)
  | .fieldAddr s x f => opFieldAddr E s (aev E T x) f
  | .field t x f => opField E t (aev E T x) f
  | .indexAddr t x i => opIndexAddr E t (aev E T x) (aev E T i)
  | .index t x i => opIndex E t (aev E T x) (aev E T i)
  | .typeAssert x _ a ok => opTypeAssert E (aev E T x) a ok
  | .extract x i => opExtract (aev E T x) i
  | .call c => match c.callee with
    | .builtin b => pureB E b c.argTypes (evAll E T c.args.toList)
    | _ => none
  | _ => none
/-- The operations that read memory and leave it as it is. -/
def rop0 (T : Tr AV) (m : AMem) (o : Op) : Option AV := match o with
  | .load t a => opLoad E t (aev E T a) m
  | .lookup t x i ok => opLookup E t (aev E T x) (aev E T i) ok m
  | .entry it => opEntry (aev E T it) m
  | .convert s d x => convR E s d (aev E T x) m
  | .call c => match c.callee with
    | .builtin b => readB E b c.argTypes (evAll E T c.args.toList) m
    | _ => none
  | _ => none
/-! values of which little is known -/
def xLen (t : Nat) (x : AV) : Option AV := match E.P.underlying t, x with
  | some (.slice _), .vsl id => some (.vsn id)
  | some .string, .vstr j => some (.vlen j none)
  | _, _ => none
def xMin (x y : AV) : Option AV := match x, y with
  | .vlen j none, .int .i64 (.ofNat c) => some (.vlen j (some c))
  | _, _ => none
def xSlice (t : Nat) (x : AV) (lo hi mx : Option AV) : Option AV := match E.P.underlying t, x, lo, hi, mx with
  | some .string, .vstr j, none, some (.vlen i _), none => match Nat.beq i j with
    | true => some .one
    | false => none
  | _, _, _, _, _ => none
def xIndex (t : Nat) (x ix : AV) (m : AMem) : Option AV := match E.P.underlying t, x, ix with
  | some (.slice e), .vsl id, .int _ (.ofNat k) => match m.get id, sizeA E.P e with
    | some (.xrow _ sz lo), some size => match Nat.beq size sz, Nat.beq size 0, Nat.blt k lo with
      | true, false, true => force (Nat.mul k size) fun o => some (.ptr id o)
      | _, _, _ => none
    | _, _ => none
  | _, _, _ => none
def xLss (x y : AV) (m : AMem) : Option AV := match x, y with
  | .int .i64 (.ofNat k), .vsn id => match m.get id with
    | some (.xrow _ _ lo) => match Nat.blt k lo with
      | true => some (.bool true)
      | false => none
    | _ => none
  | _, _ => none
def xLoad (t : Nat) (a : AV) (m : AMem) : Option AV := match a with
  | .ptr id off => match m.get id, E.P.underlying t, sizeA E.P t with
    | some (.xrow cs sz lo), some d, some n => match Nat.ble (Nat.add off n) (Nat.mul lo sz), Nat.ble (Nat.add off n) (lenL cs), Nat.beq n 0 with
      | true, true, false => match aggDesc d with
        | true => some (.agg (takeL n (dropL off cs)))
        | false => getL off cs
      | _, _, _ => none
    | _, _, _ => none
  | _ => none
def xCall (b : Builtin) (ts : List Nat) (args : List AV) : Option AV := match b, ts, args with
  | .len, t :: _, [x] => xLen E t x
  | .min, _, [x, y] => xMin x y
  | _, _, _ => none
def xop (T : Tr AV) (m : AMem) (o : Op) : Option AV := match o with
  | .load t a => xLoad E t (aev E T a) m
  | .indexAddr t x i => xIndex E t (aev E T x) (aev E T i) m
  | .binOp op _ x y _ => match op with
    | .lss => xLss (aev E T x) (aev E T y) m
    | _ => none
  | .slice t x lo hi mx => xSlice E t (aev E T x) (evO E T lo) (evO E T hi) (evO E T mx)
  | .call c => match c.callee with
    | .builtin b => xCall E b c.argTypes.toList (evAll E T c.args.toList)
    | _ => none
  | _ => none
def rop (T : Tr AV) (m : AMem) (o : Op) : Option AV := match rop0 E T m o with
  | some v => some v
  | none => xop E T m o
/-- Which of two ways: it is learnt how long a row is. -/
def xSplit (op : BinOp) (x y : AV) (m : AMem) : ARes := match op, x, y with
  | .lss, .int .i64 (.ofNat k), .vsn id => match m.get id with
    | some (.xrow cs sz lo) => .choose [(.bool true, m.set id (some (.xrow cs sz (Nat.add k 1)))), (.bool false, m)]
    | _ => .fail
  | _, _, _ => .fail
/-- The operations that lay a new block. -/
def lop (T : Tr AV) (o : Op) : Lay := match o with
  | .alloc e => opAlloc E e
  | .box e x => opBox e (aev E T x)
  | .buildSlice t n ps => opBuildSlice E t n (evParts E T ps.toList)
  | .convert s d x => convE E s d (aev E T x)
  | .makeMap _ none => some (.map [] 0, fun i => .map i)
  | .makeSlice t l c => opMakeSlice E t (aev E T l) (aev E T c)
  | _ => none
/-- The others. -/
def eop (T : Tr AV) (m : AMem) (o : Op) : ARes := match o with
  | .store t a x => opStore E t (aev E T a) (aev E T x) m
  | .mapUpdate t x k v | .insert t x k v => opMapUpdate E t (aev E T x) (aev E T k) (aev E T v) m
  | .range t x => opRange E t (aev E T x) m
  | .next it s => opNext (aev E T it) s m
  | .call c => opCall E T c m
  | .defer c => opDefer E T c
  | .panic x => opPanic (aev E T x) m
  | .binOp op _ x y _ => xSplit op (aev E T x) (aev E T y) m
  | _ => .fail
/-- An operation that is no region's that draws. -/
def aop (T : Tr AV) (m : AMem) (o : Op) : ARes := match pop E T o with
  | some v => .val v m
  | none => match rop E T m o with
    | some v => .val v m
    | none => match lop E T o with
      | some (b, f) => m.new b fun i m => .val (f i) m
      | none => eop E T m o
end
end Go.Ev
namespace Go.Ev
open Go
inductive AItem where
  | code (c : Code) | inBlock (id : Nat) | inLoop (c : Code) | inScope (c : Code) | inReg (ops : Array Oper) (rest : List Oper)
  | inRF (l : Nat) | endRF (l : Nat) | beginRound
inductive AMode where | run | returning | panicking (chain : List (AV × Bool))
structure AFrame where
  fn : Nat
  n : Nat
  T : Tr AV
  todo : List AItem
  defers : List ADef
  mode : AMode
  kind : CallKind
  roundOf : Option Nat
inductive Leaf where | ret (v : AV) (m : AMem) | pan (chain : List (AV × Bool)) (m : AMem)
inductive Tree where | fail | leaf (l : Leaf) | node (ts : List Tree)
abbrev Run := AFrame → List AFrame → AMem → Tree
noncomputable section
variable (E : Env)

/-! frames -/
/-- The frame with a temporary written. -/
def putF (d : Option Nat) (v : AV) (fn n : Nat) (T : Tr AV) (todo : List AItem) (ds : List ADef) (md : AMode) (kd : CallKind) (ro : Option Nat) (k : AFrame → Tree) : Tree := match d with
  | some d => match Nat.blt d n with
    | true => k ⟨fn, n, tput T d v, todo, ds, md, kd, ro⟩
    | false => .fail
  | none => k ⟨fn, n, T, todo, ds, md, kd, ro⟩
/-- The value of what the frame waits for. -/
def finishF (fn n : Nat) (T : Tr AV) (todo : List AItem) (ds : List ADef) (md : AMode) (kd : CallKind) (ro : Option Nat) (v : AV) (k : AFrame → Tree) : Tree := match todo with
  | .inReg ops (o :: rest) :: t => putF o.dst v fn n T (.inReg ops rest :: t) ds md kd ro k
  | .inRF l :: t => k ⟨fn, n, T, .endRF l :: t, ds, md, kd, ro⟩
  | .beginRound :: t => k ⟨fn, n, T, t, ds, md, kd, ro⟩
  | _ => .fail
def finishA (fr : AFrame) (v : AV) (k : AFrame → Tree) : Tree := match fr with
  | ⟨fn, n, T, todo, ds, md, kd, ro⟩ => finishF fn n T todo ds md kd ro v k
def raiseM (vs : List (AV × Bool)) : AMode → AMode
  | .panicking c => .panicking (vs ++ c)
  | _ => .panicking vs
def raiseA (fr : AFrame) (vs : List (AV × Bool)) : AFrame := match fr with
  | ⟨fn, n, T, todo, ds, md, kd, ro⟩ => ⟨fn, n, T, todo, ds, raiseM vs md, kd, ro⟩
def setMode (fr : AFrame) (md : AMode) : AFrame := match fr with
  | ⟨fn, n, T, todo, ds, _, kd, ro⟩ => ⟨fn, n, T, todo, ds, md, kd, ro⟩
def modeOf (fr : AFrame) : AMode := match fr with
  | ⟨_, _, _, _, _, md, _, _⟩ => md
def exitToA (id : Nat) : List AItem → Option (List AItem)
  | .inBlock id' :: k => match Nat.beq id' id with
    | true => some k
    | false => exitToA id k
  | _ :: k => exitToA id k
  | [] => none
def gotoA (l : Nat) : List AItem → Option (List AItem)
  | .inScope body :: k => match findLabel body l with
    | some rest => some (.code rest :: .inScope body :: k)
    | none => gotoA l k
  | _ :: k => gotoA l k
  | [] => none
def argsT (T : Tr AV) (i : Nat) : List AV → Tr AV
  | [] => T
  | a :: l => argsT (tput T i a) (Nat.add i 1) l
def enterA (f : Nat) (args : List AV) (kind : CallKind) : Option AFrame := match E.P.funcs[f]? with
  | some fn => match fn.body with
    | some c => some { fn := f, n := Nat.max fn.ntmps (lenL args), T := argsT .nil 0 args, todo := [.code c], defers := [], mode := .run, kind := kind, roundOf := none }
    | none => none
  | none => none
def pushT (ih : Run) (fr : Option AFrame) (cs : List AFrame) (m : AMem) : Tree := match fr with
  | some fr => ih fr cs m
  | none => .fail
/-- A frame gives a value back. -/
def doReturnA (ih : Run) (kd : CallKind) (cs : List AFrame) (v : AV) (m : AMem) : Tree := match cs with
  | [] => match kd with
    | .normal => .leaf (.ret v m)
    | _ => .fail
  | c :: cs => match kd with
    | .normal => finishA c v fun c => ih c cs m
    | .deferred => match modeOf c with
      | .panicking ((_, true) :: _) => ih (setMode c .returning) cs m
      | _ => ih c cs m
    | _ => .fail
def nextLoop (jump : Option Code) : LoopState := match jump with
  | none => .ready
  | some _ => .done
def isNoneB {α : Type} (x : Option α) : Bool := match x with
  | none => true
  | some _ => false
/-- The end of a body: of a function, or of a round of a range over a function. -/
def leaveF (ih : Run) (fn n : Nat) (T : Tr AV) (todo : List AItem) (ds : List ADef) (kd : CallKind) (ro : Option Nat) (cs : List AFrame) (m : AMem) (jump : Option Code) : Tree := match ro with
  | none => match jump with
    | none | some .ret => ih ⟨fn, n, T, todo, ds, .returning, kd, none⟩ cs m
    | _ => .fail
  | some l => match m.get l with
    | some (.loop _ _ fn n T ps a b d) => doReturnA ih kd cs (.bool (isNoneB jump)) (m.set l (some (.loop (nextLoop jump) jump fn n T ps a b d)))
    | _ => .fail
def putAll (n : Nat) (T : Tr AV) : List Nat → List AV → Option (Tr AV)
  | [], [] => some T
  | t :: ts, a :: as => match Nat.blt t n with
    | true => putAll n (tput T t a) ts as
    | false => none
  | _, _ => none
def roundFrame (l : Nat) (args : List AV) (kind : CallKind) (m : AMem) : Option AFrame := match m.get l with
  | some (.loop _ _ fn n T ps a b _) => match putAll n T ps.toList args with
    | some T => some { fn := fn, n := n, T := T, todo := [.code a, .beginRound, .code b], defers := [], mode := .run, kind := kind, roundOf := some l }
    | none => none
  | _ => none

/-! calls that are run to their end -/
inductive JRes where | plain (v : AV) | row (cs : List AV) (ty : Nat) (ext : Bool) (lo hi off len : Nat) (cap : ACap)
def plainA : AV → Bool
  | .bool _ | .int _ _ | .str _ | .nilPtr | .nilSlice | .nilMap | .nilIface | .nilFn => true
  | _ => false
def packA (wm : Nat) (v : AV) (m : AMem) : Option (JRes × Nat) := match m.bad with
  | true => none
  | false => match plainA v with
    | true => some (.plain v, m.next)
    | false => match v with
      | .slice id off len cap => match Nat.blt id wm, m.get id with
        | false, some (.cells cs ty ext false lo hi) => match keyAll cs with
          | true => some (.row cs ty ext lo hi off len cap, m.next)
          | false => none
        | _, _ => none
      | _ => none
def eqCap : ACap → ACap → Bool
  | .exact a, .exact b => Nat.beq a b
  | .opn a, .opn b => Nat.beq a b
  | _, _ => false
def eqPlain : AV → AV → Bool
  | .nilPtr, .nilPtr | .nilSlice, .nilSlice | .nilMap, .nilMap | .nilIface, .nilIface | .nilFn, .nilFn => true
  | a, b => eqLeaf a b
def eqJ : JRes → JRes → Bool
  | .plain a, .plain b => eqPlain a b
  | .row cs ty ext lo hi off len cap, .row cs' ty' ext' lo' hi' off' len' cap' =>
    eqAll cs cs' && Nat.beq ty ty' && (ext == ext') && Nat.beq lo lo' && Nat.beq hi hi' && Nat.beq off off' && Nat.beq len len' && eqCap cap cap'
  | _, _ => false
def maxN (a b : Nat) : Nat := match Nat.ble a b with
  | true => b
  | false => a
mutual
def joinT (wm : Nat) : Tree → Option (JRes × Nat)
  | .leaf (.ret v m) => packA wm v m
  | .node (t :: ts) => match joinT wm t with
    | some (r, nx) => joinTs wm r nx ts
    | none => none
  | _ => none
def joinTs (wm : Nat) (r : JRes) (nx : Nat) : List Tree → Option (JRes × Nat)
  | [] => some (r, nx)
  | t :: ts => match joinT wm t with
    | some (r', nx') => match eqJ r r' with
      | true => joinTs wm r (maxN nx nx') ts
      | false => none
    | none => none
end
/-- The memory is as it was; the numbers that the call's ways gave to their blocks are not given again. -/
def unpackA (r : JRes) (nx : Nat) (m : AMem) (k : AV → AMem → Tree) : Tree := match m with
  | ⟨blk, _, wm, bad⟩ => force nx fun nx => match r with
    | .plain v => k v ⟨blk, nx, wm, bad⟩
    | .row cs ty ext lo hi off len cap => (⟨blk, nx, wm, bad⟩ : AMem).new (.cells cs ty ext false lo hi) fun i m => k (.slice i off len cap) m
/-- A call whose ways meet again: it may go round a map in whatever order. -/
def joinCall (ih : Run) (f : Nat) (args : List AV) (m : AMem) (k : AV → AMem → Tree) : Tree := match enterA E f args .normal with
  | some fr => match joinT m.next (ih fr [] { m with wm := m.next, bad := false }) with
    | some (r, nx) => unpackA r nx m k
    | none => .fail
  | none => .fail

/-! regions that draw their order -/
/-- A call (or round) in such a region, run to its end. -/
def endOf (t : Tree) : Option (AV × AMem) := match t with
  | .leaf (.ret v m) => some (v, m)
  | _ => none
def callEnd (ih : Run) (r : ARes) : Option (AV × AMem) := match r with
  | .val v m => some (v, m)
  | .enter f args m => match E.join f with
    | true => endOf (joinCall E ih f args m fun v m => .leaf (.ret v m))
    | false => match enterA E f args .normal with
      | some fr => endOf (ih fr [] m)
      | none => none
  | .round l args m => match roundFrame l args .normal m with
    | some fr => endOf (ih fr [] m)
    | none => none
  | _ => none
inductive DK where | skip | pure | read | lay (id : Nat) (b : ABlk) | eff
structure DEnt where
  i : Nat
  o : Oper
  T : Tr AV
  kind : DK
  v : AV
  k : Nat
def tmpOf : Operand → List Nat
  | .tmp t => [t]
  | _ => []
def dstOf (ops : Array Oper) (j : Nat) : List Nat := match ops[j]? with
  | some o => o.dst.toList
  | none => []
def namesOf (ops : Array Oper) (o : Oper) : List Nat :=
  o.dst.toList ++ o.op.operands.toList.flatMap tmpOf ++ (match o.guard with
    | some (j, _) => dstOf ops j
    | none => [])
/-- Does an operation change memory, perhaps? (A guess, for the order in which a region is gone through.) -/
def loudOp : Op → Bool
  | .store .. | .mapUpdate .. | .insert .. | .mapEntry .. | .entryStore .. | .next .. | .panic _ | .defer _ | .range .. => true
  | .call c => match c.callee with
    | .builtin .len | .builtin .cap | .builtin .min | .builtin .max | .builtin .unsafeSliceData => false
    | _ => true
  | _ => false
def bit (masks : List Nat) (j i : Nat) : Bool := match getL j masks with
  | some b => Nat.testBit b i
  | none => false
/-- All that must come before, listed? -/
def allIn (mask : Nat) (done : List Nat) : List Nat → Bool
  | [] => true
  | i :: l => match Nat.testBit mask i, memN i done with
    | true, false => false
    | _, _ => allIn mask done l
def pickD (ops : List Oper) (masks all done : List Nat) (loud : Bool) : List Nat → Option Nat
  | [] => none
  | i :: l => match memN i done, getL i ops, getL i masks with
    | false, some o, some b => match loudOp o.op == loud, allIn b done all with
      | true, true => some i
      | _, _ => pickD ops masks all done loud l
    | _, _, _ => pickD ops masks all done loud l
/-- An order for the walk: what is not loud comes as early as it may. -/
def orderD (ops : List Oper) (masks all : List Nat) : Nat → List Nat → List Nat
  | 0, _ => []
  | n + 1, done => match pickD ops masks all done false all with
    | some i => i :: orderD ops masks all n (i :: done)
    | none => match pickD ops masks all done true all with
      | some i => i :: orderD ops masks all n (i :: done)
      | none => []
/-- The order is one that the edges allow, and holds all. -/
def topoD (masks all : List Nat) : List Nat → List Nat → Bool
  | done, [] => allIn (2 ^ all.length - 1) done all
  | done, i :: l => match memN i done, memN i all, getL i masks with
    | false, true, some b => match allIn b done all with
      | true => topoD masks all (i :: done) l
      | false => false
    | _, _, _ => false
/-- Whoever names a temporary stands in an order with all that write it. -/
def tmpsD (ops : Array Oper) (masks : List Nat) : Bool :=
  ops.toList.zipIdx.all fun (o, i) => ops.toList.zipIdx.all fun (w, j) => match w.dst with
    | none => true
    | some t => i == j || !(namesOf ops o).contains t || bit masks (max i j) (min i j)
def staticD (ops : Array Oper) : Option (List Nat × List Nat) :=
  let masks := (Region.before ops).toList
  let all := List.range ops.size
  let ord := orderD ops.toList masks all ops.size []
  match topoD masks all [] ord, tmpsD ops masks, masks.all fun b => Nat.blt b (2 ^ ops.size) with
  | true, true, true => some (ord, masks)
  | _, _, _ => none
def yieldsA (want : Bool) (v : AV) : Option Bool := match v with
  | .bool b => some (b == want)
  | .any | .sym _ | .one | .vgood _ => none
  | _ => some false
/-- Is an operation carried out? Known only if its guard's value is. -/
def wantedA (ops : Array Oper) (T : Tr AV) (o : Oper) : Option Bool := match o.guard with
  | none => some true
  | some (j, want) => match ops[j]? with
    | some g => match g.dst with
      | some d => yieldsA want (tget T d)
      | none => some false
    | none => some false
def putD (n : Nat) (T : Tr AV) (d : Option Nat) (v : AV) : Option (Tr AV) := match d with
  | some d => match Nat.blt d n with
    | true => some (tput T d v)
    | false => none
  | none => some T
structure DSt where
  T : Tr AV
  m : AMem
  states : List AMem
  k : Nat
  log : List DEnt
/-- One operation of the walk. -/
def oneD (ih : Run) (ops : Array Oper) (n : Nat) (i : Nat) (s : DSt) : Option DSt := match ops[i]? with
  | none => none
  | some o => match wantedA ops s.T o with
    | none => none
    | some false => match putD n s.T o.dst undefA with
      | some T => some { s with T := T, log := ⟨i, o, s.T, .skip, undefA, s.k⟩ :: s.log }
      | none => none
    | some true => match pop E s.T o.op with
      | some v => match putD n s.T o.dst v with
        | some T => some { s with T := T, log := ⟨i, o, s.T, .pure, v, s.k⟩ :: s.log }
        | none => none
      | none => match rop E s.T s.m o.op with
        | some v => match putD n s.T o.dst v with
          | some T => some { s with T := T, log := ⟨i, o, s.T, .read, v, s.k⟩ :: s.log }
          | none => none
        | none => match lop E s.T o.op with
          | some (b, f) => s.m.new b fun id m => match putD n s.T o.dst (f id) with
            | some T => some { s with T := T, m := m, states := (match s.states with | _ :: r => m :: r | [] => []), log := ⟨i, o, s.T, .lay id b, f id, s.k⟩ :: s.log }
            | none => none
          | none => match callEnd E ih (eop E s.T s.m o.op) with
            | some (v, m) => match putD n s.T o.dst v with
              | some T => some { s with T := T, m := m, states := m :: s.states, k := Nat.add s.k 1, log := ⟨i, o, s.T, .eff, v, s.k⟩ :: s.log }
              | none => none
            | none => none
def walkD (ih : Run) (ops : Array Oper) (n : Nat) : List Nat → DSt → Option DSt
  | [], s => some s
  | i :: l, s => match oneD E ih ops n i s with
    | some s => walkD ih ops n l s
    | none => none
mutual
def sameV : AV → AV → Bool
  | .any, .any | .nilPtr, .nilPtr | .nilSlice, .nilSlice | .nilMap, .nilMap | .nilFn, .nilFn | .nilIface, .nilIface => true
  | .bool a, .bool b => a == b
  | .int k a, .int k' b => kEq k k' && eqI a b
  | .sym i, .sym j => Nat.beq i j
  | .str a, .str b => eqN a b
  | .ptr i o, .ptr i' o' => Nat.beq i i' && Nat.beq o o'
  | .slice i o n c, .slice i' o' n' c' => Nat.beq i i' && Nat.beq o o' && Nat.beq n n' && eqCap c c'
  | .map i, .map j => Nat.beq i j
  | .fn (.func f) a b, .fn (.func g) c d => Nat.beq f g && sameL a c && sameL b d
  | .yield i, .yield j => Nat.beq i j
  | .iface t v, .iface u w => Nat.beq t u && sameV v w
  | .agg a, .agg b => sameL a b
  | .tup a, .tup b => sameL a b
  | .one, .one => true
  | .vstr i, .vstr j | .vgood i, .vgood j | .vsl i, .vsl j | .vsn i, .vsn j => Nat.beq i j
  | .vlen i none, .vlen j none => Nat.beq i j
  | .vlen i (some c), .vlen j (some d) => Nat.beq i j && Nat.beq c d
  | _, _ => false
def sameL : List AV → List AV → Bool
  | [], [] => true
  | a :: l, b :: r => sameV a b && sameL l r
  | _, _ => false
end
def sameB : ABlk → ABlk → Bool
  | .cells cs ty ext ro lo hi, .cells cs' ty' ext' ro' lo' hi' => sameL cs cs' && Nat.beq ty ty' && (ext == ext') && (ro == ro') && Nat.beq lo lo' && Nat.beq hi hi'
  | .map [] n, .map [] n' => Nat.beq n n'
  | _, _ => false
def effsOf : List DEnt → List Nat
  | [] => []
  | e :: l => match e.kind with
    | .eff => e.i :: effsOf l
    | _ => effsOf l
def chainD (masks : List Nat) : List Nat → Bool
  | [] => true
  | [_] => true
  | i :: j :: l => match bit masks j i with
    | true => chainD masks (j :: l)
    | false => false
def countB {α : Type} (p : α → Bool) : List α → Nat
  | [] => 0
  | a :: l => match p a with
    | true => Nat.succ (countB p l)
    | false => countB p l
/-- In each state from number 'lo' to 'hi'. -/
def fromTo (p : AMem → Bool) (lo hi : Nat) : Nat → List AMem → Bool
  | _, [] => true
  | k, m :: l => match Nat.ble lo k && Nat.ble k hi with
    | true => match p m with
      | true => fromTo p lo hi (Nat.add k 1) l
      | false => false
    | false => fromTo p lo hi (Nat.add k 1) l
def entOk (masks effs : List Nat) (states : List AMem) (e : DEnt) : Bool :=
  let lo := countB (fun j => bit masks e.i j) effs
  let hi := countB (fun j => !(bit masks j e.i)) effs
  match e.kind with
  | .skip | .pure | .eff => true
  | .read => fromTo (fun m => match rop E e.T m e.o.op with
      | some v => sameV e.v v
      | none => false) lo hi 0 states
  | .lay id b => Nat.beq e.k lo && fromTo (fun m => match m.get id with
      | some b' => sameB b b'
      | none => false) lo hi 0 states
def allEnts (masks effs : List Nat) (states : List AMem) : List DEnt → Bool
  | [] => true
  | e :: l => match entOk E masks effs states e with
    | true => allEnts masks effs states l
    | false => false
/-- A region that draws its order: what every order comes to. -/
def drawA (ih : Run) (ops : Array Oper) (n : Nat) (T : Tr AV) (m : AMem) : Option (Tr AV × AMem) := match staticD ops with
  | none => none
  | some (ord, masks) => match walkD E ih ops n ord ⟨T, m, [m], 0, []⟩ with
    | none => none
    | some s => match chainD masks (effsOf s.log).reverse, allEnts E masks (effsOf s.log).reverse s.states.reverse s.log with
      | true, true => some (s.T, s.m)
      | _, _ => none

/-! the run -/
def stepOp (ih : Run) (fn n : Nat) (T : Tr AV) (todo : List AItem) (ds : List ADef) (kd : CallKind) (ro : Option Nat) (cs : List AFrame) (m : AMem) (r : ARes) : Tree := match r with
  | .val v m => finishF fn n T todo ds .run kd ro v fun fr => ih fr cs m
  | .enter f args m => match E.join f with
    | true => joinCall E ih f args m fun v m => finishF fn n T todo ds .run kd ro v fun fr => ih fr cs m
    | false => pushT ih (enterA E f args .normal) (⟨fn, n, T, todo, ds, .run, kd, ro⟩ :: cs) m
  | .round l args m => pushT ih (roundFrame l args .normal m) (⟨fn, n, T, todo, ds, .run, kd, ro⟩ :: cs) m
  | .defer d => match ro with
    | none => finishF fn n T todo (d :: ds) .run kd none undefA fun fr => ih fr cs m
    | some _ => .fail
  | .recover => match ro, kd with
    | none, .normal => finishF fn n T todo ds .run kd none .nilIface fun fr => ih fr cs m
    | none, .deferred => match cs with
      | c :: cs => match modeOf c with
        | .panicking ((v, false) :: older) => finishF fn n T todo ds .run kd none v fun fr => ih fr (setMode c (.panicking ((v, true) :: older)) :: cs) m
        | _ => finishF fn n T todo ds .run kd none .nilIface fun fr => ih fr (c :: cs) m
      | [] => .fail
    | _, _ => .fail
  | .panic v m => ih ⟨fn, n, T, todo, ds, .panicking [(v, false)], kd, ro⟩ cs m
  | .choose alts => .node (alts.map fun (v, m) => finishF fn n T todo ds .run kd ro v fun fr => ih fr cs m)
  | .fail => .fail
/-- A range over a function: its loop is laid, and the function is called. -/
def goRF (ih : Run) (fn n : Nat) (T : Tr AV) (k : List AItem) (ds : List ADef) (kd : CallKind) (ro : Option Nat) (cs : List AFrame) (f : Operand) (params : Array Tmp) (assign body : Code) (d : Nat) (m : AMem) : Tree :=
  m.new (.loop .ready none fn n T params assign body d) fun l m => match opInvoke E (aev E T f) [.yield l] m with
    | .enter g args m => pushT ih (enterA E g args .normal) (⟨fn, n, T, .inRF l :: k, ds, .run, kd, ro⟩ :: cs) m
    | _ => .fail
def stepRF (ih : Run) (fn n : Nat) (T : Tr AV) (k : List AItem) (ds : List ADef) (kd : CallKind) (ro : Option Nat) (cs : List AFrame) (m : AMem) (f : Operand) (params : Array Tmp) (assign body : Code) : Tree := match ro with
  | some l => match m.get l with
    | some (.loop _ _ _ _ _ _ _ _ d) => goRF E ih fn n T k ds kd ro cs f params assign body d m
    | _ => .fail
  | none => m.new (.deferred (some [])) fun r m => goRF E ih fn n T k (⟨.collected r, []⟩ :: ds) kd ro cs f params assign body r m
def condF (ih : Run) (v : AV) (fn n : Nat) (T : Tr AV) (a b : Code) (k : List AItem) (ds : List ADef) (kd : CallKind) (ro : Option Nat) (cs : List AFrame) (m : AMem) : Tree := match v with
  | .bool true => ih ⟨fn, n, T, .code a :: k, ds, .run, kd, ro⟩ cs m
  | .bool false => ih ⟨fn, n, T, .code b :: k, ds, .run, kd, ro⟩ cs m
  | _ => .fail
def stepCode (ih : Run) (fn n : Nat) (T : Tr AV) (c : Code) (k : List AItem) (ds : List ADef) (kd : CallKind) (ro : Option Nat) (cs : List AFrame) (m : AMem) : Tree := match c with
  | .ret => leaveF ih fn n T (.code .ret :: k) ds kd ro cs m (some .ret)
  | .skip | .label _ => ih ⟨fn, n, T, k, ds, .run, kd, ro⟩ cs m
  | .seq a b => ih ⟨fn, n, T, .code a :: .code b :: k, ds, .run, kd, ro⟩ cs m
  | .cond c a b => condF ih (aev E T c) fn n T a b k ds kd ro cs m
  | .block id body => ih ⟨fn, n, T, .code body :: .inBlock id :: k, ds, .run, kd, ro⟩ cs m
  | .loop body => ih ⟨fn, n, T, .code body :: .inLoop body :: k, ds, .run, kd, ro⟩ cs m
  | .scope body => ih ⟨fn, n, T, .code body :: .inScope body :: k, ds, .run, kd, ro⟩ cs m
  | .exit id => match exitToA id k with
    | some k => ih ⟨fn, n, T, k, ds, .run, kd, ro⟩ cs m
    | none => leaveF ih fn n T (.code (.exit id) :: k) ds kd ro cs m (some (.exit id))
  | .goto l => match gotoA l k with
    | some k => ih ⟨fn, n, T, k, ds, .run, kd, ro⟩ cs m
    | none => leaveF ih fn n T (.code (.goto l) :: k) ds kd ro cs m (some (.goto l))
  | .rangeFunc f params assign body => stepRF E ih fn n T k ds kd ro cs m f params assign body
  | .region _ ops draw => match draw with
    | false => ih ⟨fn, n, T, .inReg ops ops.toList :: k, ds, .run, kd, ro⟩ cs m
    | true => match drawA E ih ops n T m with
      | some (T, m) => ih ⟨fn, n, T, k, ds, .run, kd, ro⟩ cs m
      | none => .fail
  | .refuse _ => .fail
def stepReg (ih : Run) (fn n : Nat) (T : Tr AV) (ops : Array Oper) (rest : List Oper) (k : List AItem) (ds : List ADef) (kd : CallKind) (ro : Option Nat) (cs : List AFrame) (m : AMem) : Tree := match rest with
  | [] => ih ⟨fn, n, T, k, ds, .run, kd, ro⟩ cs m
  | o :: r => match wantedA ops T o with
    | some true => stepOp E ih fn n T (.inReg ops (o :: r) :: k) ds kd ro cs m (aop E T m o.op)
    | some false => finishF fn n T (.inReg ops (o :: r) :: k) ds .run kd ro undefA fun fr => ih fr cs m
    | none => .fail
def stepItem (ih : Run) (fn n : Nat) (T : Tr AV) (i : AItem) (k : List AItem) (ds : List ADef) (kd : CallKind) (ro : Option Nat) (cs : List AFrame) (m : AMem) : Tree := match i with
  | .code c => stepCode E ih fn n T c k ds kd ro cs m
  | .inReg ops rest => stepReg E ih fn n T ops rest k ds kd ro cs m
  | .inBlock _ | .inScope _ => ih ⟨fn, n, T, k, ds, .run, kd, ro⟩ cs m
  | .inLoop body => ih ⟨fn, n, T, .code body :: .inLoop body :: k, ds, .run, kd, ro⟩ cs m
  | .beginRound => match ro with
    | some l => match m.get l with
      | some (.loop .ready p fn' n' T' ps a b d) => ih ⟨fn, n, T, k, ds, .run, kd, ro⟩ cs (m.set l (some (.loop .busy p fn' n' T' ps a b d)))
      | _ => .fail
    | none => .fail
  | .endRF l => match m.get l with
    | some (.loop .busy _ _ _ _ _ _ _ _) => .fail
    | some (.loop _ p fn' n' T' ps a b d) => ih ⟨fn, n, T, (match p with | some c => .code c :: k | none => k), ds, .run, kd, ro⟩ cs (m.set l (some (.loop .exhausted p fn' n' T' ps a b d)))
    | _ => .fail
  | .inRF _ => .fail
def resultsA (m : AMem) (T : Tr AV) : List ResultVar → Option (List AV)
  | [] => some []
  | .tmp t :: r => match resultsA m T r with
    | some l => some (tget T t :: l)
    | none => none
  | .cell a t :: r => match opLoad E t (tget T a) m, resultsA m T r with
    | some v, some l => some (v :: l)
    | _, _ => none
def oneOrTup (l : List AV) : AV := match l with
  | [v] => v
  | l => .tup l
def deferF (ih : Run) (fn n : Nat) (T : Tr AV) (todo : List AItem) (d : ADef) (ds : List ADef) (md : AMode) (kd : CallKind) (ro : Option Nat) (cs : List AFrame) (m : AMem) : Tree := match d with
  | ⟨tgt, args⟩ => match tgt with
    | .collected r => match m.get r with
      | some (.deferred (some calls)) => ih ⟨fn, n, T, todo, calls ++ ds, md, kd, ro⟩ cs (m.set r (some (.deferred none)))
      | _ => .fail
    | .fn (.func f) cap => match E.spec f with
      | some _ => .fail
      | none => match opCallFunc E f (appL args cap) m with
        | .enter f args m => pushT ih (enterA E f args .deferred) (⟨fn, n, T, todo, ds, md, kd, ro⟩ :: cs) m
        | _ => .fail
    | _ => .fail
def returnF (ih : Run) (fn : Nat) (T : Tr AV) (kd : CallKind) (cs : List AFrame) (m : AMem) : Tree := match E.P.funcs[fn]? with
  | some f => match resultsA E m T f.results.toList with
    | some l => doReturnA ih kd cs (oneOrTup l) m
    | none => .fail
  | none => .fail
def panicF (ih : Run) (fn : Nat) (chain : List (AV × Bool)) (kd : CallKind) (ro : Option Nat) (cs : List AFrame) (m : AMem) : Tree := match E.P.funcs[fn]? with
  | some _ => match cs with
    | c :: cs => ih (raiseA c chain) cs m
    | [] => match ro, kd with
      | none, .normal => .leaf (.pan chain m)
      | _, _ => .fail
  | none => .fail
def stepF (ih : Run) (fn n : Nat) (T : Tr AV) (todo : List AItem) (ds : List ADef) (md : AMode) (kd : CallKind) (ro : Option Nat) (cs : List AFrame) (m : AMem) : Tree := match md with
  | .run => match todo with
    | [] => leaveF ih fn n T [] ds kd ro cs m none
    | i :: k => stepItem E ih fn n T i k ds kd ro cs m
  | .returning => match ds with
    | d :: ds => deferF E ih fn n T todo d ds .returning kd ro cs m
    | [] => returnF E ih fn T kd cs m
  | .panicking chain => match ds with
    | d :: ds => deferF E ih fn n T todo d ds (.panicking chain) kd ro cs m
    | [] => panicF E ih fn chain kd ro cs m
def step (ih : Run) (fr : AFrame) (cs : List AFrame) (m : AMem) : Tree := match fr with
  | ⟨fn, n, T, todo, ds, md, kd, ro⟩ => stepF E ih fn n T todo ds md kd ro cs m
def run (n : Nat) : Run := Nat.rec (motive := fun _ => Run) (fun _ _ _ => .fail) (fun _ ih => step E ih) n
def callA (n f : Nat) (args : List AV) (m : AMem) : Tree := match enterA E f args .normal with
  | some fr => run E n fr [] m
  | none => .fail
end
end Go.Ev
namespace Go.Ev
open Go
noncomputable section
def idxN (c : Nat) (l : List Nat) : Nat → Int := List.rec (motive := fun _ => Nat → Int) (fun _ => -1) (fun a _ ih i => match Nat.beq a c with
  | true => .ofNat i
  | false => ih (Nat.add i 1)) l
def indexByteH : Handler := fun args m => match args with
  | [.str s, .int .u8 (.ofNat c)] => match Nat.blt c 256 with
    | true => normI (idxN c s 0) fun n => some (.int .i64 n, m)
    | false => none
  | _ => none
def idH : Handler := fun args m => match args with
  | [x] => some (x, m)
  | _ => none
def anys (n : Nat) : List AV := Nat.rec (motive := fun _ => List AV) [] (fun _ ih => .any :: ih) n
def noZeroH (u8 : Nat) : Handler := fun args m => match args with
  | [.int .i64 (.ofNat n)] => match Nat.ble n 1000000 with
    | true => m.new (.cells (anys n) u8 true false 0 0) fun i m => some (.slice i 0 n (.opn 1), m)
    | false => none
  | _ => none
end
end Go.Ev
