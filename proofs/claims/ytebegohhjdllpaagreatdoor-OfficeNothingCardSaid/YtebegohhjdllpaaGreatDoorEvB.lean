/-
  What the abstract machine has to do with the model: the relation, and memory.
-/
import Derived.Below
import Derived.Laws.NewBlocks
import Derived.Test.YtebegohhjdllpaaGreatDoorEvA
set_option linter.unusedVariables false
set_option linter.unusedSimpArgs false
namespace Go.Ev
open Go Go.RowKit
/-- Where an abstract block lies: the model's block, the first cell, how many cells. -/
structure Loc where
  b : Nat
  off : Nat
  e : Nat
/-- Where the blocks lie. The numbers below 'lim' stay as they are: who has no place yet gets none. -/
structure Phi where
  map : Nat → Option Loc
  lim : Nat
  val : Nat → Value
instance : CoeFun Phi (fun _ => Nat → Option Loc) := ⟨Phi.map⟩
structure Ext (φ φ' : Phi) : Prop where
  sub : ∀ id L, φ id = some L → φ' id = some L
  old : ∀ id, id < φ.lim → φ' id = φ id
  lim : φ'.lim = φ.lim
  val : φ'.val = φ.val
instance {φ φ' : Phi} : CoeFun (Ext φ φ') (fun _ => ∀ id L, φ id = some L → φ' id = some L) := ⟨Ext.sub⟩
theorem Ext.refl (φ : Phi) : Ext φ φ := ⟨fun _ _ h => h, fun _ _ => rfl, rfl, rfl⟩
theorem Ext.trans {a b c : Phi} (h : Ext a b) (k : Ext b c) : Ext a c :=
  ⟨fun i L e => k i L (h i L e), fun i hi => (k.old i (by rw [h.lim]; exact hi)).trans (h.old i hi), k.lim.trans h.lim, k.val.trans h.val⟩
def bytesOf' := bytesOf
def cutN : Option Nat → Nat → Nat
  | some c, n => min n c
  | none, n => n
inductive VRel (φ : Phi) (ν : Nat → Int) : AV → Value → Prop
  | any (v : Value) : VRel φ ν .any v
  | bool (b : Bool) : VRel φ ν (.bool b) (.bool b)
  | int (k : IntKind) (n : Int) : VRel φ ν (.int k n) (.int k n)
  | sym (i : Nat) : VRel φ ν (.sym i) (.int .i64 (ν i))
  | str (s : ByteArray) : VRel φ ν (.str (bytesOf s)) (.string s)
  | nilPtr : VRel φ ν .nilPtr (.pointer none)
  | ptr {id off : Nat} {L : Loc} : φ id = some L → VRel φ ν (.ptr id off) (.pointer (some ⟨L.b, L.off + off, none⟩))
  | nilSlice : VRel φ ν .nilSlice (.slice none 0 0)
  | sliceE {id off len c : Nat} {L : Loc} {a : Addr} : φ id = some L → (c ≠ 0 → a = ⟨L.b, L.off + off, none⟩) → len ≤ c →
      VRel φ ν (.slice id off len (.exact c)) (.slice (some a) len c)
  | sliceO {id off len sz c : Nat} {L : Loc} {a : Addr} : φ id = some L → (c ≠ 0 → a = ⟨L.b, L.off + off, none⟩) → len ≤ c → 0 < sz → off + c * sz = L.e →
      VRel φ ν (.slice id off len (.opn sz)) (.slice (some a) len c)
  | nilMap : VRel φ ν .nilMap (.map none)
  | map {id : Nat} {L : Loc} : φ id = some L → VRel φ ν (.map id) (.map (some L.b))
  | fn {g : Nat} {as bs : List AV} {cs ds : List Value} : as.length = cs.length → (∀ (i : Nat) a c, as[i]? = some a → cs[i]? = some c → VRel φ ν a c) →
      bs.length = ds.length → (∀ (i : Nat) a c, bs[i]? = some a → ds[i]? = some c → VRel φ ν a c) → VRel φ ν (.fn (.func g) as bs) (.func (.func g) cs.toArray ds.toArray)
  | yield {l : Nat} {L : Loc} : φ l = some L → VRel φ ν (.yield l) (.func (.yield L.b) #[] #[])
  | nilFn : VRel φ ν .nilFn .nilFunc
  | iface {t : Nat} {a : AV} {v : Value} : VRel φ ν a v → VRel φ ν (.iface t a) (.iface t v)
  | nilIface : VRel φ ν .nilIface .nilIface
  | one (v : Value) : v.oneCell' = true → VRel φ ν .one v
  | vstr {j : Nat} {s : ByteArray} : φ.val j = .string s → VRel φ ν (.vstr j) (.string s)
  | vlen {j : Nat} {c : Option Nat} {s : ByteArray} : φ.val j = .string s → VRel φ ν (.vlen j c) (.int .i64 (cutN c s.size : Int))
  | vgood {j : Nat} {v : Value} : φ.val j = v → v.oneCell' = true → VRel φ ν (.vgood j) v
  | vsl {id c : Nat} {L : Loc} {a : Addr} : φ id = some L → (L.e ≠ 0 → a = ⟨L.b, L.off, none⟩) → L.e ≤ c → VRel φ ν (.vsl id) (.slice (some a) L.e c)
  | vsn {id : Nat} {L : Loc} : φ id = some L → VRel φ ν (.vsn id) (.int .i64 (L.e : Int))
  | agg {as : List AV} {cs : List Value} : as.length = cs.length → (∀ (i : Nat) a c, as[i]? = some a → cs[i]? = some c → VRel φ ν a c) → VRel φ ν (.agg as) (.agg cs.toArray)
  | tup {as : List AV} {cs : List Value} : as.length = cs.length → (∀ (i : Nat) a c, as[i]? = some a → cs[i]? = some c → VRel φ ν a c) → VRel φ ν (.tup as) (.tuple cs.toArray)
/-- Lists of values, one by one. -/
def LRel (φ : Phi) (ν : Nat → Int) (as : List AV) (cs : List Value) : Prop := as.length = cs.length ∧ ∀ (i : Nat) a c, as[i]? = some a → cs[i]? = some c → VRel φ ν a c
section
variable {φ φ' : Phi} {ν : Nat → Int}
theorem VRel.mono (hx : Ext φ φ') {a : AV} {v : Value} (h : VRel φ ν a v) : VRel φ' ν a v := by
  induction h with
  | any v => exact .any v
  | bool b => exact .bool b
  | int k n => exact .int k n
  | sym i => exact .sym i
  | str s => exact .str s
  | nilPtr => exact .nilPtr
  | ptr h => exact .ptr (hx _ _ h)
  | nilSlice => exact .nilSlice
  | sliceE h ha hl => exact .sliceE (hx _ _ h) ha hl
  | sliceO h ha hl hs he => exact .sliceO (hx _ _ h) ha hl hs he
  | nilMap => exact .nilMap
  | map h => exact .map (hx _ _ h)
  | fn h1 _ h2 _ ih1 ih2 => exact .fn h1 (fun i a c ha hc => ih1 i a c ha hc) h2 (fun i a c ha hc => ih2 i a c ha hc)
  | yield h => exact .yield (hx _ _ h)
  | nilFn => exact .nilFn
  | iface _ ih => exact .iface ih
  | nilIface => exact .nilIface
  | one v h => exact .one v h
  | vstr h => exact .vstr (by rw [hx.val]; exact h)
  | vlen h => exact .vlen (by rw [hx.val]; exact h)
  | vgood h h' => exact .vgood (by rw [hx.val]; exact h) h'
  | vsl h ha hl => exact .vsl (hx _ _ h) ha hl
  | vsn h => exact .vsn (hx _ _ h)
  | agg h _ ih => exact .agg h (fun i a c ha hc => ih i a c ha hc)
  | tup h _ ih => exact .tup h (fun i a c ha hc => ih i a c ha hc)
theorem LRel.mono (hx : Ext φ φ') {as : List AV} {cs : List Value} (h : LRel φ ν as cs) : LRel φ' ν as cs := ⟨h.1, fun i a c ha hc => (h.2 i a c ha hc).mono hx⟩
theorem LRel.nil : LRel φ ν [] [] := ⟨rfl, fun i a c h _ => by simp at h⟩
theorem LRel.cons {a : AV} {c : Value} {as : List AV} {cs : List Value} (h : VRel φ ν a c) (hs : LRel φ ν as cs) : LRel φ ν (a :: as) (c :: cs) := by
  refine ⟨by simp [hs.1], fun i x y hx hy => ?_⟩
  cases i with
  | zero => simp at hx hy; subst hx; subst hy; exact h
  | succ i => exact hs.2 i x y (by simpa using hx) (by simpa using hy)
theorem LRel.head {a : AV} {c : Value} {as : List AV} {cs : List Value} (h : LRel φ ν (a :: as) (c :: cs)) : VRel φ ν a c := h.2 0 a c rfl rfl
theorem LRel.tail {a : AV} {c : Value} {as : List AV} {cs : List Value} (h : LRel φ ν (a :: as) (c :: cs)) : LRel φ ν as cs :=
  ⟨by simpa using h.1, fun i x y hx hy => h.2 (i + 1) x y (by simpa using hx) (by simpa using hy)⟩
theorem LRel.nil_inv {cs : List Value} (h : LRel φ ν [] cs) : cs = [] := by have := h.1; simp at this; exact (List.length_eq_zero_iff.1 this.symm)
theorem LRel.cons_inv {a : AV} {as : List AV} {cs : List Value} (h : LRel φ ν (a :: as) cs) : ∃ c cs', cs = c :: cs' ∧ VRel φ ν a c ∧ LRel φ ν as cs' := by
  cases cs with
  | nil => have := h.1; simp at this
  | cons c cs' => exact ⟨c, cs', rfl, h.head, h.tail⟩
theorem LRel.get {as : List AV} {cs : List Value} (h : LRel φ ν as cs) {i : Nat} {a : AV} (ha : as[i]? = some a) : ∃ c, cs[i]? = some c ∧ VRel φ ν a c := by
  have hi : i < as.length := by
    rcases Nat.lt_or_ge i as.length with h' | h'
    · exact h'
    · rw [List.getElem?_eq_none h'] at ha; cases ha
  have hc : i < cs.length := h.1 ▸ hi
  exact ⟨cs[i], List.getElem?_eq_getElem hc, h.2 i a _ ha (List.getElem?_eq_getElem hc)⟩
theorem LRel.append {as bs : List AV} {cs ds : List Value} (h : LRel φ ν as cs) (k : LRel φ ν bs ds) : LRel φ ν (as ++ bs) (cs ++ ds) := by
  induction as generalizing cs with
  | nil => rw [h.nil_inv]; exact k
  | cons a as ih =>
    obtain ⟨c, cs', rfl, hv, ht⟩ := h.cons_inv
    exact LRel.cons hv (ih ht)
theorem LRel.take {as : List AV} {cs : List Value} (h : LRel φ ν as cs) : ∀ n : Nat, LRel φ ν (as.take n) (cs.take n) := by
  intro n
  refine ⟨by simp [h.1], fun i a c ha hc => ?_⟩
  rw [List.getElem?_take] at ha hc
  split at ha
  · exact h.2 i a c ha (by simpa [*] using hc)
  · cases ha
theorem LRel.drop {as : List AV} {cs : List Value} (h : LRel φ ν as cs) (n : Nat) : LRel φ ν (as.drop n) (cs.drop n) :=
  ⟨by simp [h.1], fun i a c ha hc => h.2 (n + i) a c (by simpa [List.getElem?_drop] using ha) (by simpa [List.getElem?_drop] using hc)⟩
theorem VRel.agg' {as : List AV} {cs : List Value} (h : LRel φ ν as cs) : VRel φ ν (.agg as) (.agg cs.toArray) := .agg h.1 h.2
theorem VRel.tup' {as : List AV} {cs : List Value} (h : LRel φ ν as cs) : VRel φ ν (.tup as) (.tuple cs.toArray) := .tup h.1 h.2
theorem VRel.agg_inv {as : List AV} {v : Value} (h : VRel φ ν (.agg as) v) : ∃ cs : List Value, v = .agg cs.toArray ∧ LRel φ ν as cs := by
  cases h with
  | agg h1 h2 => exact ⟨_, rfl, h1, h2⟩
theorem VRel.tup_inv {as : List AV} {v : Value} (h : VRel φ ν (.tup as) v) : ∃ cs : List Value, v = .tuple cs.toArray ∧ LRel φ ν as cs := by
  cases h with
  | tup h1 h2 => exact ⟨_, rfl, h1, h2⟩
theorem VRel.fn_inv {f : Fn} {as bs : List AV} {v : Value} (h : VRel φ ν (.fn f as bs) v) :
    ∃ g, ∃ cs ds : List Value, f = .func g ∧ v = .func (.func g) cs.toArray ds.toArray ∧ LRel φ ν as cs ∧ LRel φ ν bs ds := by
  cases h with
  | fn h1 h2 h3 h4 => exact ⟨_, _, _, rfl, rfl, ⟨h1, h2⟩, ⟨h3, h4⟩⟩
theorem VRel.bool_inv {b : Bool} {v : Value} (h : VRel φ ν (.bool b) v) : v = .bool b := by cases h; rfl
theorem VRel.int_inv {k : IntKind} {n : Int} {v : Value} (h : VRel φ ν (.int k n) v) : v = .int k n := by cases h; rfl
theorem VRel.sym_inv {i : Nat} {v : Value} (h : VRel φ ν (.sym i) v) : v = .int .i64 (ν i) := by cases h; rfl
theorem VRel.str_inv {l : List Nat} {v : Value} (h : VRel φ ν (.str l) v) : ∃ s, v = .string s ∧ bytesOf s = l := by cases h; exact ⟨_, rfl, rfl⟩
theorem VRel.ptr_inv {id off : Nat} {v : Value} (h : VRel φ ν (.ptr id off) v) : ∃ L, φ id = some L ∧ v = .pointer (some ⟨L.b, L.off + off, none⟩) := by
  cases h with
  | ptr h => exact ⟨_, h, rfl⟩
theorem VRel.map_inv {id : Nat} {v : Value} (h : VRel φ ν (.map id) v) : ∃ L, φ id = some L ∧ v = .map (some L.b) := by
  cases h with
  | map h => exact ⟨_, h, rfl⟩
theorem VRel.yield_inv {l : Nat} {v : Value} (h : VRel φ ν (.yield l) v) : ∃ L, φ l = some L ∧ v = .func (.yield L.b) #[] #[] := by
  cases h with
  | yield h => exact ⟨_, h, rfl⟩
theorem VRel.iface_inv {t : Nat} {a : AV} {v : Value} (h : VRel φ ν (.iface t a) v) : ∃ x, v = .iface t x ∧ VRel φ ν a x := by
  cases h with
  | iface h => exact ⟨_, rfl, h⟩
theorem VRel.nilPtr_inv {v : Value} (h : VRel φ ν .nilPtr v) : v = .pointer none := by cases h; rfl
theorem VRel.nilSlice_inv {v : Value} (h : VRel φ ν .nilSlice v) : v = .slice none 0 0 := by cases h; rfl
theorem VRel.nilMap_inv {v : Value} (h : VRel φ ν .nilMap v) : v = .map none := by cases h; rfl
theorem VRel.nilFn_inv {v : Value} (h : VRel φ ν .nilFn v) : v = .nilFunc := by cases h; rfl
theorem VRel.nilIface_inv {v : Value} (h : VRel φ ν .nilIface v) : v = .nilIface := by cases h; rfl
/-- A slice that is not nil: what is known of it. -/
structure SRel (φ : Phi) (id off len : Nat) (cap : ACap) (L : Loc) (a : Addr) (c : Nat) : Prop where
  loc : φ id = some L
  addr : c ≠ 0 → a = ⟨L.b, L.off + off, none⟩
  le : len ≤ c
  cap : match cap with
    | .exact n => c = n
    | .opn sz => 0 < sz ∧ off + c * sz = L.e
theorem VRel.slice_inv {id off len : Nat} {cap : ACap} {v : Value} (h : VRel φ ν (.slice id off len cap) v) :
    ∃ L a c, v = .slice (some a) len c ∧ SRel φ id off len cap L a c := by
  cases h with
  | sliceE h1 h2 h3 => exact ⟨_, _, _, rfl, h1, h2, h3, rfl⟩
  | sliceO h1 h2 h3 h4 h5 => exact ⟨_, _, _, rfl, h1, h2, h3, h4, h5⟩
theorem SRel.vrel {id off len : Nat} {cap : ACap} {L : Loc} {a : Addr} {c : Nat} (h : SRel φ id off len cap L a c) : VRel φ ν (.slice id off len cap) (.slice (some a) len c) := by
  obtain ⟨h1, h2, h3, h4⟩ := h
  cases cap with
  | exact n => simp only at h4; subst h4; exact .sliceE h1 h2 h3
  | opn sz => simp only at h4; exact .sliceO h1 h2 h3 h4.1 h4.2
theorem one_cells {a : AV} {v : Value} (h : VRel φ ν a v) (h1 : v.oneCell' = true) (hc : cellsA a = [a]) : LRel φ ν (cellsA a) v.cells.toList := by
  rw [hc]
  cases v <;> first
    | (simp [Value.oneCell'] at h1; done)
    | exact LRel.cons h .nil
/-- The cells of a value. -/
theorem VRel.cells {a : AV} {v : Value} (h : VRel φ ν a v) (hk : known a = true) : LRel φ ν (cellsA a) v.cells.toList := by
  cases h <;> first
    | (simp [known] at hk; done)
    | (rename_i h1 h2; exact ⟨by simpa [cellsA, Value.cells] using h1, by simpa [cellsA, Value.cells] using h2⟩)
    | skip
  all_goals first
    | exact LRel.cons (.bool _) .nil
    | exact LRel.cons (.int _ _) .nil
    | exact LRel.cons (.sym _) .nil
    | exact LRel.cons (.str _) .nil
    | exact LRel.cons .nilPtr .nil
    | exact LRel.cons (.ptr ‹_›) .nil
    | exact LRel.cons .nilSlice .nil
    | exact LRel.cons (.sliceE ‹_› ‹_› ‹_›) .nil
    | exact LRel.cons (.sliceO ‹_› ‹_› ‹_› ‹_› ‹_›) .nil
    | exact LRel.cons .nilMap .nil
    | exact LRel.cons (.map ‹_›) .nil
    | exact LRel.cons (.fn ‹_› ‹_› ‹_› ‹_›) .nil
    | exact LRel.cons (.yield ‹_›) .nil
    | exact LRel.cons .nilFn .nil
    | exact LRel.cons (.iface ‹_›) .nil
    | exact LRel.cons .nilIface .nil
    | exact one_cells (.one _ ‹_›) ‹_› rfl
    | exact one_cells (.vgood ‹_› ‹_›) ‹_› rfl
    | exact LRel.cons (.vstr ‹_›) .nil
    | exact LRel.cons (.vlen ‹_›) .nil
    | exact LRel.cons (.vsl ‹_› ‹_› ‹_›) .nil
    | exact LRel.cons (.vsn ‹_›) .nil
    | exact LRel.cons (.tup ‹_› ‹_›) .nil
/-- A literal of the program. -/
theorem absLeaf_sound {v : Value} {a : AV} (h : absLeaf v = some a) : VRel φ ν a v := by
  unfold absLeaf at h
  split at h <;> first
    | (simp only [Option.some.injEq] at h; subst h; first | exact .bool _ | exact .int _ _ | exact .str _ | exact .nilPtr | exact .nilSlice | exact .nilMap | exact .nilFn | exact .nilIface)
    | (split at h
       · rename_i hc
         simp only [Option.some.injEq] at h
         subst h
         simp only [Bool.and_eq_true, Array.isEmpty_iff] at hc
         rw [hc.1, hc.2]
         exact VRel.fn (cs := []) (ds := []) rfl (fun i a c h _ => by simp at h) rfl (fun i a c h _ => by simp at h)
       · cases h)
    | cases h
theorem absAll_sound : ∀ {vs : List Value} {as : List AV}, absAll vs = some as → LRel φ ν as vs := by
  intro vs
  induction vs with
  | nil => intro as h; simp [absAll] at h; subst h; exact .nil
  | cons v vs ih =>
    intro as h
    unfold absAll at h
    split at h
    · rename_i a as' h1 h2
      simp only [Option.some.injEq] at h
      subst h
      exact .cons (absLeaf_sound h1) (ih h2)
    · cases h
theorem absV_sound {v : Value} {a : AV} (h : absV v = some a) : VRel φ ν a v := by
  unfold absV at h
  split at h
  · rename_i cs
    cases h' : absAll cs.toList with
    | none => rw [h'] at h; cases h
    | some as =>
      rw [h'] at h
      simp at h
      subst h
      exact VRel.agg' (cs := cs.toList) (absAll_sound h')
  · rename_i cs
    cases h' : absAll cs.toList with
    | none => rw [h'] at h; cases h
    | some as =>
      rw [h'] at h
      simp at h
      subst h
      exact VRel.tup' (cs := cs.toList) (absAll_sound h')
  · rename_i t v
    cases h' : absLeaf v with
    | none => rw [h'] at h; cases h
    | some x =>
      rw [h'] at h
      simp at h
      subst h
      exact .iface (absLeaf_sound h')
  · exact absLeaf_sound h
/-- Temporaries. -/
def TRel (φ : Phi) (ν : Nat → Int) (n : Nat) (T : Tr AV) (tmps : Array Value) : Prop := tmps.size = n ∧ ∀ t, VRel φ ν (tget T t) (tmps.getD t undef)
theorem undef_rel : VRel φ ν undefA undef := VRel.tup' (cs := []) .nil
theorem tget_tput (T : Tr AV) (i j : Nat) (v : AV) : tget (tput T i v) j = if i = j then v else tget T j := by
  unfold tget tput
  rw [Tr.get_putN]
  by_cases h : i = j <;> simp [h]
theorem TRel.mono (hx : Ext φ φ') {n : Nat} {T : Tr AV} {tmps : Array Value} (h : TRel φ ν n T tmps) : TRel φ' ν n T tmps := ⟨h.1, fun t => (h.2 t).mono hx⟩
theorem TRel.put {n : Nat} {T : Tr AV} {tmps : Array Value} (h : TRel φ ν n T tmps) {d : Nat} {a : AV} {v : Value} (hv : VRel φ ν a v) (hd : d < n) :
    TRel φ ν n (tput T d a) (tmps.setIfInBounds d v) := by
  refine ⟨by simp [h.1], fun t => ?_⟩
  rw [tget_tput]
  by_cases e : d = t
  · subst e
    simp [Array.getD, h.1, hd, hv]
  · have h2 := h.2 t
    simp only [e, if_false]
    have : (tmps.setIfInBounds d v).getD t undef = tmps.getD t undef := by
      simp only [Array.getD_eq_getD_getElem?]
      rw [Array.getElem?_setIfInBounds_ne e]
    rw [this]; exact h2
/-- What holds of the variables of the program, and where an operand's value comes from. -/
structure GRel (E : Env) (φ : Phi) : Prop where
  glob : ∀ g, g < E.G → ∃ L, φ g = some L ∧ L.b = g ∧ L.off = 0
theorem GRel.mono {E : Env} (h : GRel E φ) (hx : Ext φ φ') : GRel E φ' := ⟨fun g hg => let ⟨L, h1, h2⟩ := h.glob g hg; ⟨L, hx _ _ h1, h2⟩⟩
theorem nat_blt {a b : Nat} (h : Nat.blt a b = true) : a < b := by simpa [Nat.blt_eq] using h
theorem nat_blt_false {a b : Nat} (h : Nat.blt a b = false) : b ≤ a := by
  rcases Nat.lt_or_ge a b with h' | h'
  · have : Nat.blt a b = true := by simpa [Nat.blt_eq] using h'
    rw [this] at h; cases h
  · exact h'
theorem nat_ble {a b : Nat} (h : Nat.ble a b = true) : a ≤ b := Nat.le_of_ble_eq_true h
theorem nat_ble_false {a b : Nat} (h : Nat.ble a b = false) : b < a := by
  rcases Nat.lt_or_ge b a with h' | h'
  · exact h'
  · have : Nat.ble a b = true := Nat.ble_eq_true_of_le h'
    rw [this] at h; cases h
theorem nat_beq {a b : Nat} (h : Nat.beq a b = true) : a = b := Nat.eq_of_beq_eq_true h
theorem nat_beq_false {a b : Nat} (h : Nat.beq a b = false) : a ≠ b := Nat.ne_of_beq_eq_false h
theorem aev_sound {E : Env} {n : Nat} {T : Tr AV} {a : Act} (hG : GRel E φ) (hT : TRel φ ν n T a.tmps) (x : Operand) : VRel φ ν (aev E T x) (a.eval x) := by
  cases x with
  | tmp t => exact hT.2 t
  | const v =>
    show VRel φ ν (match absV v with | some a => a | none => .any) v
    cases h : absV v with
    | none => exact .any v
    | some b => exact absV_sound h
  | global g =>
    show VRel φ ν (match Nat.blt g E.G with | true => .ptr g 0 | false => .any) (.pointer (some ⟨g, 0, none⟩))
    cases h : Nat.blt g E.G with
    | false => exact .any _
    | true =>
      obtain ⟨L, h1, h2, h3⟩ := hG.glob g (nat_blt h)
      have := VRel.ptr (ν := ν) (off := 0) h1
      rw [h2, h3] at this
      exact this
  | func f => exact VRel.fn (cs := []) (ds := []) rfl (fun i a c h _ => by simp at h) rfl (fun i a c h _ => by simp at h)
theorem evAll_sound {E : Env} {n : Nat} {T : Tr AV} {a : Act} (hG : GRel E φ) (hT : TRel φ ν n T a.tmps) (l : List Operand) : LRel φ ν (evAll E T l) (l.map a.eval) := by
  induction l with
  | nil => exact .nil
  | cons x l ih => exact .cons (aev_sound hG hT x) ih
end
end Go.Ev
namespace Go.Ev
open Go Go.RowKit
/-- What is frozen of a block. -/
def FzRel (L : Loc) (lo hi : Nat) (fz : Nat × Nat) : Prop :=
  (∀ i, i < L.e → fz.1 ≤ L.off + i → L.off + i < fz.2 → lo ≤ i ∧ i < hi) ∧ ((hi ≤ lo ∨ lo = 0) → fz.1 = fz.2 ∨ fz.2 ≤ L.off + hi)
inductive TgRel (φ : Phi) (ν : Nat → Int) : ATgt → Target → Prop
  | fn {f : Nat} {cap : List AV} {cs : List Value} : LRel φ ν cap cs → TgRel φ ν (.fn (.func f) cap) (.fn (.func f) cs.toArray)
  | collected {r : Nat} {L : Loc} : φ r = some L → TgRel φ ν (.collected r) (.collected L.b)
structure DRel (φ : Phi) (ν : Nat → Int) (d : ADef) (D : Deferred) : Prop where
  tgt : TgRel φ ν d.tgt D.target
  args : LRel φ ν d.args D.args.toList
inductive DsRel (φ : Phi) (ν : Nat → Int) : List ADef → List Deferred → Prop
  | nil : DsRel φ ν [] []
  | cons {d : ADef} {D : Deferred} {ds : List ADef} {Ds : List Deferred} : DRel φ ν d D → DsRel φ ν ds Ds → DsRel φ ν (d :: ds) (D :: Ds)
inductive EsRel (φ : Phi) (ν : Nat → Int) : List AEnt → List MapEntry → Prop
  | nil : EsRel φ ν [] []
  | cons {e : AEnt} {c : MapEntry} {es : List AEnt} {cs : List MapEntry} : VRel φ ν e.key c.key → VRel φ ν e.val c.val → e.born = c.born → EsRel φ ν es cs → EsRel φ ν (e :: es) (c :: cs)
def CRel (φ : Phi) (ν : Nat → Int) (cs : List AV) (off : Nat) (cc : Array Value) : Prop := ∀ (i : Nat) a, cs[i]? = some a → ∃ c, cc[off + i]? = some c ∧ VRel φ ν a c
/-- A block, and what lies in the model's heap. -/
inductive BObj (φ : Phi) (ν : Nat → Int) : ABlk → Loc → Obj → Prop
  | cells {cs : List AV} {ty : Nat} {ext ro : Bool} {lo hi : Nat} {L : Loc} {cc : Array Value} {fz : Nat × Nat} : cs.length ≤ L.e → L.off + L.e ≤ cc.size →
      (ext = false → L.off = 0 ∧ L.e = cs.length ∧ cc.size = cs.length) → CRel φ ν cs L.off cc → FzRel L lo hi fz → BObj φ ν (.cells cs ty ext ro lo hi) L (.cells cc ty fz)
  | xrow {cs : List AV} {sz lo ty : Nat} {L : Loc} {cc : Array Value} {fz : Nat × Nat} : lo ≤ L.e → (∀ (i : Nat) a, cs[i]? = some a → i < L.e * sz → ∃ c, cc[L.off + i]? = some c ∧ VRel φ ν a c) →
      BObj φ ν (.xrow cs sz lo) L (.cells cc ty fz)
  | map {es : List AEnt} {n : Nat} {L : Loc} {ces : Array MapEntry} : EsRel φ ν es ces.toList → BObj φ ν (.map es n) L (.map ces n)
  | siter {s : ByteArray} {pos : Nat} {L : Loc} : L.off = 0 → BObj φ ν (.siter (bytesOf s) pos) L (.stringIter s pos)
  | miterN {since last : Nat} {seen : List Nat} {L : Loc} : L.off = 0 → BObj φ ν (.miter none since seen last) L (.mapIter none since seen.toArray last)
  | miterS {id since last : Nat} {seen : List Nat} {L L' : Loc} : L.off = 0 → φ id = some L' → BObj φ ν (.miter (some id) since seen last) L (.mapIter (some L'.b) since seen.toArray last)
  | miterW {id since last k : Nat} {cur : Option Nat} {must gone seen : List Nat} {L L' : Loc} : L.off = 0 → φ id = some L' → seen.Nodup → (∀ b ∈ seen, b < since) → seen.length + k = since →
      (∀ b ∈ must, b ∉ seen ∧ b < since) → (∀ b ∈ gone, b ∈ seen) → (∀ c, cur = some c → seen.getLast? = some c) → BObj φ ν (.miterW id since last cur must gone k) L (.mapIter (some L'.b) since seen.toArray last)
  | loop {st : LoopState} {p : Option Code} {fn n d : Nat} {T : Tr AV} {ps : Array Tmp} {a b : Code} {L L' : Loc} {tmps : Array Value} : φ d = some L' → TRel φ ν n T tmps →
      BObj φ ν (.loop st p fn n T ps a b d) L (.loop ⟨st, p, fn, tmps, ps, a, b, L'.b⟩)
  | deferredN {L : Loc} : BObj φ ν (.deferred none) L (.deferred none)
  | deferredS {ds : List ADef} {Ds : List Deferred} {L : Loc} : DsRel φ ν ds Ds → BObj φ ν (.deferred (some ds)) L (.deferred (some Ds))
/-- May the machine write there? -/
def wr : ABlk → Bool
  | .cells _ _ _ ro _ _ => !ro
  | .xrow _ _ _ => false
  | _ => true
structure MRel (E : Env) (φ : Phi) (ν : Nat → Int) (B : Nat) (m : AMem) (w : World) : Prop extends GRel E φ where
  blk : ∀ id b L, m.get id = some b → φ id = some L → ∃ o, w.heap[L.b]? = some o ∧ BObj φ ν b L o
  dom : ∀ id L, φ id = some L → id < m.next
  lt : ∀ id L, φ id = some L → L.b < w.heap.size
  inj : ∀ id id' b b' L L', m.get id = some b → m.get id' = some b' → φ id = some L → φ id' = some L' → L.b = L'.b → id = id'
  own : ∀ id b L, m.get id = some b → φ id = some L → wr b = true → B ≤ L.b
  base : B ≤ w.heap.size
  top : ∀ id b, m.get id = some b → id < m.next
  lim : φ.lim ≤ m.next
  vals : φ.val = E.val
  bas : E.base ≤ B
  old : ∀ k, k < E.base → w.heap[k]? = E.old k
section
variable {φ φ' : Phi} {ν : Nat → Int} {E : Env} {B : Nat} {m : AMem} {w w' : World}
theorem TgRel.mono (hx : Ext φ φ') {t : ATgt} {T : Target} (h : TgRel φ ν t T) : TgRel φ' ν t T := by
  cases h with
  | fn h => exact .fn (h.mono hx)
  | collected h => exact .collected (hx _ _ h)
theorem DRel.mono (hx : Ext φ φ') {d : ADef} {D : Deferred} (h : DRel φ ν d D) : DRel φ' ν d D := ⟨h.tgt.mono hx, h.args.mono hx⟩
theorem DsRel.mono (hx : Ext φ φ') {ds : List ADef} {Ds : List Deferred} (h : DsRel φ ν ds Ds) : DsRel φ' ν ds Ds := by
  induction h with
  | nil => exact .nil
  | cons h _ ih => exact .cons (h.mono hx) ih
theorem EsRel.mono (hx : Ext φ φ') {es : List AEnt} {cs : List MapEntry} (h : EsRel φ ν es cs) : EsRel φ' ν es cs := by
  induction h with
  | nil => exact .nil
  | cons h1 h2 h3 _ ih => exact .cons (h1.mono hx) (h2.mono hx) h3 ih
theorem CRel.mono (hx : Ext φ φ') {cs : List AV} {off : Nat} {cc : Array Value} (h : CRel φ ν cs off cc) : CRel φ' ν cs off cc :=
  fun i a ha => let ⟨c, h1, h2⟩ := h i a ha; ⟨c, h1, h2.mono hx⟩
theorem BObj.mono (hx : Ext φ φ') {b : ABlk} {L : Loc} {o : Obj} (h : BObj φ ν b L o) : BObj φ' ν b L o := by
  cases h with
  | cells h1 h2 h3 h4 h5 => exact .cells h1 h2 h3 (h4.mono hx) h5
  | xrow h h' => exact .xrow h (fun i a ha hi => let ⟨c, h1, h2⟩ := h' i a ha hi; ⟨c, h1, h2.mono hx⟩)
  | map h => exact .map (h.mono hx)
  | siter h => exact .siter h
  | miterN h => exact .miterN h
  | miterS h h' => exact .miterS h (hx _ _ h')
  | miterW h h' a b c d e f => exact .miterW h (hx _ _ h') a b c d e f
  | loop h h' => exact .loop (hx _ _ h) (h'.mono hx)
  | deferredN => exact .deferredN
  | deferredS h => exact .deferredS (h.mono hx)
theorem AMem.get_set (m : AMem) (id j : Nat) (x : Option ABlk) : (m.set id x).get j = if id = j then x else m.get j := by
  obtain ⟨b, nx, wm, bad⟩ := m
  unfold AMem.set AMem.get
  simp only
  cases Nat.blt id wm <;> exact Tr.get_putN x id j b
theorem AMem.next_set (m : AMem) (id : Nat) (x : Option ABlk) : (m.set id x).next = m.next := by
  obtain ⟨b, nx, wm, bad⟩ := m
  unfold AMem.set
  simp only
  cases Nat.blt id wm <;> rfl
/-- The memory with a new block. -/
noncomputable def AMem.push (m : AMem) (x : ABlk) : AMem := ⟨m.blk.put (toPth m.next) (some x), m.next + 1, m.wm, m.bad⟩
theorem AMem.new_eq {β : Type} (m : AMem) (x : ABlk) (f : Nat → AMem → β) : m.new x f = f m.next (m.push x) := rfl
theorem AMem.get_push (m : AMem) (x : ABlk) (j : Nat) : (m.push x).get j = if m.next = j then some x else m.get j := Tr.get_putN _ _ _ _
theorem AMem.next_push (m : AMem) (x : ABlk) : (m.push x).next = m.next + 1 := rfl
def Phi.put (φ : Phi) (i : Nat) (L : Loc) : Phi := ⟨fun j => if j = i then some L else φ j, φ.lim, φ.val⟩
theorem phi_put_ne {φ : Phi} {i j : Nat} (L : Loc) (h : j ≠ i) : φ.put i L j = φ j := by unfold Phi.put; dsimp only; rw [if_neg h]
theorem Phi.put_self (φ : Phi) (i : Nat) (L : Loc) : φ.put i L i = some L := by simp [Phi.put]
theorem Ext.put {φ : Phi} {i : Nat} (L : Loc) (h : φ i = none) (hl : φ.lim ≤ i) : Ext φ (φ.put i L) := by
  refine ⟨fun id L' hL => ?_, fun id hid => ?_, rfl, rfl⟩
  · rw [phi_put_ne L (fun e => by subst e; rw [h] at hL; cases hL)]; exact hL
  · exact phi_put_ne L (by omega)
theorem MRel.ext_put (h : MRel E φ ν B m w) (L : Loc) : Ext φ (φ.put m.next L) := by
  refine Ext.put L ?_ h.lim
  cases e : φ m.next with
  | none => rfl
  | some L' => have := h.dom _ _ e; omega
theorem heap_alloc_lt (w : World) (o : Obj) {k : Nat} (h : k < w.heap.size) : (w.alloc o).heap[k]? = w.heap[k]? := Below.heap_alloc w o k h
theorem heap_alloc_new (w : World) (o : Obj) : (w.alloc o).heap[w.heap.size]? = some o := by show (w.heap.push o)[w.heap.size]? = some o; simp
/-- A new block. -/
theorem MRel.push (h : MRel E φ ν B m w) {x : ABlk} {o : Obj} {L : Loc} (hL : L.b = w.heap.size) (hx : BObj (φ.put m.next L) ν x L o) :
    MRel E (φ.put m.next L) ν B (m.push x) (w.alloc o) := by
  have hext := h.ext_put L
  refine ⟨h.toGRel.mono hext, ?_, ?_, ?_, ?_, ?_, ?_, ?_, by rw [AMem.next_push]; exact Nat.le_succ_of_le h.lim, h.vals, h.bas, fun k hk => by rw [heap_alloc_lt w o (by have := h.base; have := h.bas; omega)]; exact h.old k hk⟩
  · intro id b L' hb hl
    rw [AMem.get_push] at hb
    by_cases e : m.next = id
    · subst e
      rw [Phi.put_self] at hl
      simp only [Option.some.injEq] at hl
      subst hl
      simp only [if_true, Option.some.injEq] at hb
      subst hb
      exact ⟨o, by rw [hL]; exact heap_alloc_new w o, hx⟩
    · rw [if_neg e] at hb
      have hl' : φ id = some L' := by
        unfold Phi.put at hl; dsimp only at hl
        rw [if_neg (fun e' => e e'.symm)] at hl
        exact hl
      obtain ⟨o', h1, h2⟩ := h.blk id b L' hb hl'
      exact ⟨o', by rw [heap_alloc_lt w o (h.lt id L' hl')]; exact h1, h2.mono hext⟩
  · intro id L' hl
    rw [AMem.next_push]
    by_cases e : id = m.next
    · omega
    · unfold Phi.put at hl; dsimp only at hl
      rw [if_neg e] at hl
      have := h.dom id L' hl
      omega
  · intro id L' hl
    rw [World.size_alloc]
    by_cases e : id = m.next
    · subst e
      rw [Phi.put_self] at hl
      simp only [Option.some.injEq] at hl
      subst hl
      omega
    · unfold Phi.put at hl; dsimp only at hl
      rw [if_neg e] at hl
      have := h.lt id L' hl
      omega
  · intro id id' b b' L1 L2 hb hb' hl hl' heq
    rw [AMem.get_push] at hb hb'
    by_cases e : id = m.next <;> by_cases e' : id' = m.next
    · rw [e, e']
    · subst e
      rw [Phi.put_self] at hl
      simp only [Option.some.injEq] at hl
      subst hl
      unfold Phi.put at hl'; dsimp only at hl'
      rw [if_neg e'] at hl'
      have := h.lt id' L2 hl'
      omega
    · subst e'
      rw [Phi.put_self] at hl'
      simp only [Option.some.injEq] at hl'
      subst hl'
      unfold Phi.put at hl; dsimp only at hl
      rw [if_neg e] at hl
      have := h.lt id L1 hl
      omega
    · unfold Phi.put at hl hl'; dsimp only at hl hl'
      rw [if_neg e] at hl
      rw [if_neg e'] at hl'
      rw [if_neg (fun q => e q.symm)] at hb
      rw [if_neg (fun q => e' q.symm)] at hb'
      exact h.inj id id' b b' L1 L2 hb hb' hl hl' heq
  · intro id b L' hb hl hw
    rw [AMem.get_push] at hb
    by_cases e : id = m.next
    · subst e
      rw [Phi.put_self] at hl
      simp only [Option.some.injEq] at hl
      subst hl
      have := h.base
      omega
    · unfold Phi.put at hl; dsimp only at hl
      rw [if_neg e] at hl
      rw [if_neg (fun q => e q.symm)] at hb
      exact h.own id b L' hb hl hw
  · rw [World.size_alloc]; have := h.base; omega
  · intro id b hb
    rw [AMem.get_push] at hb
    rw [AMem.next_push]
    by_cases e : m.next = id
    · omega
    · rw [if_neg e] at hb
      have := h.top id b hb
      omega
/-- Another content of a block. -/
theorem MRel.set (h : MRel E φ ν B m w) {id : Nat} {b x : ABlk} {L : Loc} {o : Obj} (hb : m.get id = some b) (hl : φ id = some L) (hsz : w'.heap.size = w.heap.size)
    (ho : w'.heap[L.b]? = some o) (hx : BObj φ ν x L o) (hother : ∀ k, k ≠ L.b → w'.heap[k]? = w.heap[k]?) (hw : wr b = true) :
    MRel E φ ν B (m.set id (some x)) w' := by
  refine ⟨h.toGRel, ?_, ?_, ?_, ?_, ?_, ?_, ?_, by rw [AMem.next_set]; exact h.lim, h.vals, h.bas, fun k hk => by rw [hother k (by have := h.own id b L hb hl hw; have := h.bas; omega)]; exact h.old k hk⟩
  · intro j y L' hy hl'
    rw [AMem.get_set] at hy
    by_cases e : id = j
    · subst e
      rw [hl] at hl'
      simp only [Option.some.injEq] at hl'
      subst hl'
      simp only [if_true, Option.some.injEq] at hy
      subst hy
      exact ⟨o, ho, hx⟩
    · rw [if_neg e] at hy
      have hne : L'.b ≠ L.b := fun q => e (h.inj j id y b L' L hy hb hl' hl q).symm
      obtain ⟨o', h1, h2⟩ := h.blk j y L' hy hl'
      exact ⟨o', by rw [hother _ hne]; exact h1, h2⟩
  · intro j L' hl'; rw [AMem.next_set]; exact h.dom j L' hl'
  · intro j L' hl'; rw [hsz]; exact h.lt j L' hl'
  · intro j j' y y' L1 L2 hy hy' h1 h2 heq
    rw [AMem.get_set] at hy hy'
    have g : ∀ k z, (if id = k then some x else m.get k) = some z → ∃ z', m.get k = some z' := by
      intro k z hk
      by_cases e : id = k
      · subst e; exact ⟨b, hb⟩
      · rw [if_neg e] at hk; exact ⟨z, hk⟩
    obtain ⟨z, hz⟩ := g j y hy
    obtain ⟨z', hz'⟩ := g j' y' hy'
    exact h.inj j j' z z' L1 L2 hz hz' h1 h2 heq
  · intro j y L' hy hl' hwy
    rw [AMem.get_set] at hy
    by_cases e : id = j
    · subst e; rw [hl] at hl'; simp only [Option.some.injEq] at hl'; subst hl'; exact h.own id b L hb hl hw
    · rw [if_neg e] at hy; exact h.own j y L' hy hl' hwy
  · rw [hsz]; exact h.base
  · intro j y hy
    rw [AMem.get_set] at hy
    rw [AMem.next_set]
    by_cases e : id = j
    · subst e; exact h.top id b hb
    · rw [if_neg e] at hy; exact h.top j y hy
/-- A block is forgotten. -/
theorem MRel.kill (h : MRel E φ ν B m w) (id : Nat) : MRel E φ ν B (m.set id none) w := by
  have g : ∀ k z, (m.set id none).get k = some z → m.get k = some z := by
    intro k z hk
    rw [AMem.get_set] at hk
    by_cases e : id = k
    · rw [if_pos e] at hk; cases hk
    · rw [if_neg e] at hk; exact hk
  exact ⟨h.toGRel, fun j y L hy hl => h.blk j y L (g _ _ hy) hl, fun j L hl => by rw [AMem.next_set]; exact h.dom j L hl, h.lt,
    fun j j' y y' L1 L2 hy hy' => h.inj j j' y y' L1 L2 (g _ _ hy) (g _ _ hy'), fun j y L hy => h.own j y L (g _ _ hy), h.base, fun j y hy => by rw [AMem.next_set]; exact h.top j y (g _ _ hy), by rw [AMem.next_set]; exact h.lim, h.vals, h.bas, h.old⟩
/-- A draw of the tape. -/
theorem MRel.drew (h : MRel E φ ν B m w) : MRel E φ ν B m { w with drawn := w.drawn + 1 } :=
  ⟨h.toGRel, h.blk, h.dom, h.lt, h.inj, h.own, h.base, h.top, h.lim, h.vals, h.bas, h.old⟩
end
end Go.Ev
