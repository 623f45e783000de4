/-
  Operations that neither read nor change memory are sound.
-/
import Derived.Laws.StructEq
import Derived.Laws.Cells
import Derived.Test.YtebegohhjdllpaaGreatDoorEvB
set_option linter.unusedVariables false
set_option linter.unusedSimpArgs false
namespace Go.Ev
open Go Go.RowKit
section
variable {P : Program} {φ : Phi} {ν : Nat → Int}
theorem run_info {t : TypeId} {i : TypeInfo} (h : P.info? t = some i) (w : World) : (typeInfo t).run P w = .ok i w := by
  simp [typeInfo, h]
theorem run_size {t : TypeId} {i : TypeInfo} (h : P.info? t = some i) (w : World) : (sizeOf t).run P w = .ok i.size w := by
  simp [sizeOf, run_info h]
theorem run_zero {t : TypeId} {i : TypeInfo} {z : Value} (h : P.info? t = some i) (hz : i.zero = some z) (w : World) : (zeroValue t).run P w = .ok z w := by
  simp [zeroValue, run_info h, hz]
theorem run_agg {t : TypeId} {d : TypeDesc} (h : P.underlying t = some d) (w : World) : (isAgg t).run P w = .ok (aggDesc d) w := by
  simp only [isAgg, Sem.run_bind, run_underlying h, Result.andThen_ok]
  cases d <;> rfl
theorem zeroA_sound {t : TypeId} {a : AV} (h : zeroA P t = some a) : ∃ i z, P.info? t = some i ∧ i.zero = some z ∧ VRel φ ν a z := by
  unfold zeroA at h
  split at h
  · rename_i i hi
    split at h
    · rename_i z hz
      exact ⟨i, z, hi, hz, absV_sound h⟩
    · cases h
  · cases h
theorem sizeA_some {t : TypeId} {n : Nat} (h : sizeA P t = some n) : ∃ i, P.info? t = some i ∧ i.size = n := by
  unfold sizeA at h
  split at h
  · rename_i i hi
    simp only [Option.some.injEq] at h
    exact ⟨i, hi, h⟩
  · cases h
theorem toArray_extract (cs : List Value) (off n : Nat) : cs.toArray.extract off (off + n) = ((cs.drop off).take n).toArray := by
  apply Array.ext'
  simp [List.extract_eq_take_drop]
theorem partA_sound {t : TypeId} {as : List AV} {cs : List Value} {off : Nat} {v : AV} (h : partA P t as off = some v) (hl : LRel φ ν as cs) (w : World) :
    ∃ x, (part t cs.toArray off).run P w = .ok x w ∧ VRel φ ν v x := by
  unfold partA at h
  split at h
  · rename_i d i hd hi
    split at h
    · rename_i hag
      split at h
      · rename_i hle
        simp only [Option.some.injEq] at h
        subst h
        rw [takeL_eq, dropL_eq]
        refine ⟨.agg ((cs.drop off).take i.size).toArray, ?_, VRel.agg' ((hl.drop off).take _)⟩
        simp [part, run_agg hd, hag, run_size hi]
      · cases h
    · rename_i hag
      rw [getL_eq] at h
      obtain ⟨c, hc, hv⟩ := hl.get h
      refine ⟨c, ?_, hv⟩
      simp [part, run_agg hd, hag, hc]
  · cases h
theorem kEq_eq {a b : IntKind} (h : kEq a b = true) : a = b := by cases a <;> cases b <;> first | rfl | cases h
theorem eqI_eq (a b : Int) : eqI a b = decide (a = b) := by
  cases a <;> cases b <;> simp only [eqI]
  · rename_i m n
    cases h : Nat.beq m n with
    | true => have := nat_beq h; subst this; simp
    | false => have := nat_beq_false h; symm; simp; omega
  · symm; simp
  · symm; simp
  · rename_i m n
    cases h : Nat.beq m n with
    | true => have := nat_beq h; subst this; simp
    | false => have := nat_beq_false h; simp [this]
theorem ltI_eq (a b : Int) : ltI a b = decide (a < b) := by
  cases a <;> cases b <;> simp only [ltI]
  · rename_i m n
    cases h : Nat.blt m n with
    | true => have := nat_blt h; symm; simp; omega
    | false => have := nat_blt_false h; symm; simp; omega
  · symm; simp; omega
  · symm; simp; omega
  · rename_i m n
    cases h : Nat.blt n m with
    | true => have := nat_blt h; symm; simp; omega
    | false => have := nat_blt_false h; symm; simp; omega
theorem bytesOf_inj {a b : ByteArray} (h : bytesOf a = bytesOf b) : a = b := by
  obtain ⟨⟨x⟩⟩ := a
  obtain ⟨⟨y⟩⟩ := b
  simp only [bytesOf] at h
  have : x = y := (List.map_inj_right (f := UInt8.toNat) (fun a b e => UInt8.toNat_inj.1 e)).1 h
  rw [this]
theorem toList_bytes (s : ByteArray) : s.toList.map UInt8.toNat = bytesOf s := by rw [ByteArray.toList_eq]; rfl
theorem eqN_bytes (a b : ByteArray) : eqN (bytesOf a) (bytesOf b) = (a.toList == b.toList) := by
  rw [eqN_eq, ByteArray.toList_eq, ByteArray.toList_eq]
  obtain ⟨⟨x⟩⟩ := a
  obtain ⟨⟨y⟩⟩ := b
  show decide (x.map UInt8.toNat = y.map UInt8.toNat) = (x == y)
  by_cases h : x = y
  · subst h; simp
  · have : x.map UInt8.toNat ≠ y.map UInt8.toNat := fun e => h ((List.map_inj_right (f := UInt8.toNat) (fun a b e => UInt8.toNat_inj.1 e)).1 e)
    simp [h, this]
theorem ltN_bytes : ∀ x y : List UInt8, ltN (x.map UInt8.toNat) (y.map UInt8.toNat) = Op.bytesLess x y := by
  intro x
  induction x with
  | nil => intro y; cases y <;> rfl
  | cons a x ih =>
    intro y
    cases y with
    | nil => rfl
    | cons b y =>
      simp only [List.map_cons, ltN_cons, ih, Op.bytesLess]
      by_cases h1 : a < b
      · have := UInt8.lt_iff_toNat_lt.1 h1
        simp [h1, this]
      · have h1' : ¬ a.toNat < b.toNat := fun e => h1 (UInt8.lt_iff_toNat_lt.2 e)
        by_cases h2 : a = b
        · subst h2; simp [h1]
        · have h2' : a.toNat ≠ b.toNat := fun e => h2 (UInt8.toNat_inj.1 e)
          simp [h1, h1', h2, h2']
end
end Go.Ev
namespace Go.Ev
open Go Go.RowKit
section
variable {P : Program} {φ : Phi} {ν : Nat → Int}
theorem inR_bounds {k : IntKind} {n : Int} (h : inR k n = true) : k.min ≤ n ∧ n ≤ k.max := by
  unfold inR at h
  split at h <;> first
    | (have := nat_blt h; constructor <;> simp [IntKind.min, IntKind.max, IntKind.signed, IntKind.bits] <;> omega)
    | cases h
theorem inR_wrap {k : IntKind} {n : Int} (h : inR k n = true) : k.wrap n = n := by
  have := inR_bounds h
  cases k <;> simp [IntKind.min, IntKind.max, IntKind.signed, IntKind.bits] at this <;> simp [IntKind.wrap, IntKind.signed, IntKind.bits] <;> (try split) <;> omega
theorem wrapA_eq (k : IntKind) (n : Int) : wrapA k n = k.wrap n := by
  unfold wrapA
  cases h : inR k n with
  | true => exact (inR_wrap h).symm
  | false => rfl
theorem normI_eq {β : Type} (n : Int) (f : Int → β) : normI n f = f n := by cases n <;> rfl
/-- The model's '==' on two values that are known. -/
theorem eqFields_sound {d D : Nat} (ih : ∀ (t : Nat) (x y : AV) (r : Bool) (cx cy : Value) (w : World), eqA P d t x y = some r → VRel φ ν x cx → VRel φ ν y cy → (Op.equalIn D t cx cy).run P w = .ok r w)
    {xs ys : List AV} {cxs cys : List Value} (hx : LRel φ ν xs cxs) (hy : LRel φ ν ys cys) (w : World) :
    ∀ (fs : List Field) (r : Bool), eqA.eqFields P (fun t x y => eqA P d t x y) xs ys fs = some r → (Op.eqFields D cxs.toArray cys.toArray fs).run P w = .ok r w := by
  intro fs
  induction fs with
  | nil => intro r h; simp [eqA.eqFields] at h; subst h; rfl
  | cons f fs ihf =>
    intro r h
    unfold eqA.eqFields at h
    unfold Op.eqFields
    by_cases hn : f.name = "_"
    · rw [if_pos hn] at h
      rw [if_neg (by simp [hn])]
      exact ihf r h
    · rw [if_neg hn] at h
      rw [if_pos hn]
      split at h
      · rename_i x y hpx hpy
        obtain ⟨px, r1, v1⟩ := partA_sound hpx hx w
        obtain ⟨py, r2, v2⟩ := partA_sound hpy hy w
        simp only [Sem.run_bind, r1, r2, Result.andThen_ok]
        split at h
        · rename_i he
          rw [ih f.type x y true px py w he v1 v2]
          simp only [Result.andThen_ok, Bool.not_true, Bool.false_eq_true, if_false]
          exact ihf r h
        · rename_i he
          cases hr : eqA P d f.type x y with
          | none => rw [hr] at h; cases h
          | some q =>
            rw [hr] at h
            simp only [Option.some.injEq] at h
            subst h
            cases q with
            | true => exact absurd hr he
            | false => rw [ih f.type x y false px py w hr v1 v2]; simp
      · cases h
theorem eqRow_sound {D elem size : Nat} {eq : AV → AV → Option Bool}
    (ih : ∀ (x y : AV) (r : Bool) (cx cy : Value) (w : World), eq x y = some r → VRel φ ν x cx → VRel φ ν y cy → (Op.equalIn D elem cx cy).run P w = .ok r w)
    {xs ys : List AV} {cxs cys : List Value} (hx : LRel φ ν xs cxs) (hy : LRel φ ν ys cys) (w : World) :
    ∀ (n i : Nat) (r : Bool), eqA.eqRow P eq elem size xs ys n i = some r →
      (do for i in List.range' i n do
            if !(← Op.equalIn D elem (← part elem cxs.toArray (i * size)) (← part elem cys.toArray (i * size))) then return false
          pure true : Sem Bool).run P w = .ok r w := by
  intro n
  induction n with
  | zero => intro i r h; simp [eqA.eqRow] at h; subst h; simp
  | succ n ihn =>
    intro i r h
    unfold eqA.eqRow at h
    simp only [List.range'_succ, List.forIn_cons, Sem.run_bind]
    split at h
    · rename_i x y hpx hpy
      obtain ⟨px, r1, v1⟩ := partA_sound hpx hx w
      obtain ⟨py, r2, v2⟩ := partA_sound hpy hy w
      simp only [Nat.mul_eq] at r1 r2
      simp only [r1, r2, Result.andThen_ok]
      split at h
      · rename_i he
        rw [ih x y true px py w he v1 v2]
        simp only [Result.andThen_ok, Bool.not_true, Bool.false_eq_true, if_false, Sem.run_pure]
        have := ihn (i + 1) r h
        simp only [Sem.run_bind] at this
        exact this
      · rename_i he
        cases hr : eq x y with
        | none => rw [hr] at h; cases h
        | some q =>
          rw [hr] at h
          simp only [Option.some.injEq] at h
          subst h
          cases q with
          | true => exact absurd hr he
          | false => rw [ih x y false px py w hr v1 v2]; simp
    · cases h
set_option maxHeartbeats 2000000 in
theorem eqA_sound : ∀ (d D : Nat), d ≤ D → ∀ (t : Nat) (x y : AV) (r : Bool) (cx cy : Value) (w : World), eqA P d t x y = some r → VRel φ ν x cx → VRel φ ν y cy →
    (Op.equalIn D t cx cy).run P w = .ok r w := by
  intro d
  induction d with
  | zero => intro D _ t x y r cx cy w h; simp [eqA] at h
  | succ d ihd =>
    intro D hD t x y r cx cy w h hx hy
    obtain ⟨D, rfl⟩ : ∃ k, D = k + 1 := ⟨D - 1, by omega⟩
    have ih := ihd D (by omega)
    unfold eqA at h
    split at h
    · cases h
    · rename_i td htd
      have hu := run_underlying htd w
      split at h
      · -- bool
        cases hx.bool_inv; cases hy.bool_inv
        simp only [Option.some.injEq] at h; subst h
        simp [Op.equalIn, hu]
      · -- int
        cases hx.int_inv; cases hy.int_inv
        split at h
        · rename_i hk
          have := kEq_eq hk; subst this
          simp only [Option.some.injEq] at h; subst h
          simp only [Op.equalIn, Sem.run_bind, hu, Result.andThen_ok, eqI_eq]
          simp
          rfl
        · cases h
      · -- sym
        cases hx.sym_inv; cases hy.sym_inv
        split at h
        · rename_i hk
          have := nat_beq hk; subst this
          simp only [Option.some.injEq] at h; subst h
          simp [Op.equalIn, hu]
        · cases h
      · -- string
        obtain ⟨a, rfl, ha⟩ := hx.str_inv; obtain ⟨b, rfl, hb⟩ := hy.str_inv
        subst ha; subst hb
        simp only [Option.some.injEq] at h; subst h
        rw [eqN_bytes]
        simp [Op.equalIn, hu, beq_toListBytes]
      · cases hx.nilPtr_inv; cases hy.nilPtr_inv
        simp only [Option.some.injEq] at h; subst h
        simp [Op.equalIn, hu]
      · cases hx.nilPtr_inv; obtain ⟨L, _, rfl⟩ := hy.ptr_inv
        simp only [Option.some.injEq] at h; subst h
        simp [Op.equalIn, hu]
      · obtain ⟨L, _, rfl⟩ := hx.ptr_inv; cases hy.nilPtr_inv
        simp only [Option.some.injEq] at h; subst h
        simp [Op.equalIn, hu]
      · -- two pointers
        rename_i e i o i' o'
        obtain ⟨L, hL, rfl⟩ := hx.ptr_inv; obtain ⟨L', hL', rfl⟩ := hy.ptr_inv
        split at h
        · rename_i inf hinf
          split at h
          · rename_i h1 h2
            have := nat_beq h2; subst this
            rw [hL] at hL'; simp only [Option.some.injEq] at hL'; subst hL'
            have hs := nat_beq_false h1
            simp only [Option.some.injEq] at h; subst h
            simp only [Op.equalIn, Sem.run_bind, hu, Result.andThen_ok, run_size hinf, sameAddr]
            simp [hs]
            cases hb : Nat.beq o o' with
            | true => have := nat_beq hb; subst this; simp
            | false => have := nat_beq_false hb; simp [this]
          · cases h
        · cases h
      · cases hx.nilIface_inv; cases hy.nilIface_inv
        simp only [Option.some.injEq] at h; subst h
        simp [Op.equalIn, hu]
      · cases hx.nilIface_inv; obtain ⟨z, rfl, _⟩ := hy.iface_inv
        simp only [Option.some.injEq] at h; subst h
        simp [Op.equalIn, hu]
      · obtain ⟨z, rfl, _⟩ := hx.iface_inv; cases hy.nilIface_inv
        simp only [Option.some.injEq] at h; subst h
        simp [Op.equalIn, hu]
      · obtain ⟨z, rfl, hz⟩ := hx.iface_inv; obtain ⟨z', rfl, hz'⟩ := hy.iface_inv
        rename_i tx vx ty vy
        split at h
        · rename_i hk
          have := nat_beq_false hk
          simp only [Option.some.injEq] at h; subst h
          simp [Op.equalIn, hu, this]
        · rename_i hk
          have := nat_beq hk; subst this
          split at h
          · rename_i inf hinf
            split at h
            · rename_i hc
              simp [Op.equalIn, hu, run_info hinf, hc]
              exact ih tx vx vy r z z' w h hz hz'
            · cases h
          · cases h
      · -- struct
        rename_i fields xs ys
        obtain ⟨cxs, rfl, hxs⟩ := hx.agg_inv; obtain ⟨cys, rfl, hys⟩ := hy.agg_inv
        split at h
        · cases h
        · rename_i hst
          have hf : P.fieldsOf t = fields := by simp [Program.fieldsOf, htd]
          have htd' : P.underlying t = some (.struct (P.fieldsOf t)) := by rw [hf]; exact htd
          rw [run_equalIn_struct w D t _ _ htd' hst, hf]
          exact eqFields_sound (fun t x y r cx cy w => ih t x y r cx cy w) hxs hys w fields.toList r h
      · -- array
        rename_i len elem xs ys
        obtain ⟨cxs, rfl, hxs⟩ := hx.agg_inv; obtain ⟨cys, rfl, hys⟩ := hy.agg_inv
        split at h
        · rename_i inf hinf
          have := eqRow_sound (D := D) (fun x y r cx cy w => ih elem x y r cx cy w) hxs hys w len 0 r h
          simp only [Op.equalIn, Sem.run_bind, hu, Result.andThen_ok, run_size hinf]
          simp only [Sem.run_bind] at this
          simpa [Std.Legacy.Range.forIn_eq_forIn_range'] using this
        · cases h
      · cases hx.nilSlice_inv; cases hy.nilSlice_inv
        simp only [Option.some.injEq] at h; subst h
        simp [Op.equalIn, hu]
      · cases hx.nilSlice_inv; obtain ⟨L, a, c, rfl, _⟩ := hy.slice_inv
        simp only [Option.some.injEq] at h; subst h
        simp [Op.equalIn, hu]
      · obtain ⟨L, a, c, rfl, _⟩ := hx.slice_inv; cases hy.nilSlice_inv
        simp only [Option.some.injEq] at h; subst h
        simp [Op.equalIn, hu]
      · cases hx.nilMap_inv; cases hy.nilMap_inv
        simp only [Option.some.injEq] at h; subst h
        simp [Op.equalIn, hu]
      · cases hx.nilMap_inv; obtain ⟨L, _, rfl⟩ := hy.map_inv
        simp only [Option.some.injEq] at h; subst h
        simp [Op.equalIn, hu]
      · obtain ⟨L, _, rfl⟩ := hx.map_inv; cases hy.nilMap_inv
        simp only [Option.some.injEq] at h; subst h
        simp [Op.equalIn, hu]
      · cases hx.nilFn_inv; cases hy.nilFn_inv
        simp only [Option.some.injEq] at h; subst h
        simp [Op.equalIn, hu]
      · cases hx.nilFn_inv; obtain ⟨g, cs, ds, _, rfl, _⟩ := hy.fn_inv
        simp only [Option.some.injEq] at h; subst h
        simp [Op.equalIn, hu]
      · obtain ⟨g, cs, ds, _, rfl, _⟩ := hx.fn_inv; cases hy.nilFn_inv
        simp only [Option.some.injEq] at h; subst h
        simp [Op.equalIn, hu]
      · cases h
end
end Go.Ev
namespace Go.Ev
open Go Go.RowKit
section
variable {E : Env} {φ : Phi} {ν : Nat → Int} {w : World}
/-- A run that gives a value and leaves the world as it is. -/
def Gives (P : Program) (φ : Phi) (ν : Nat → Int) (w : World) (s : Sem Value) (v : AV) : Prop := ∃ x, s.run P w = .ok x w ∧ VRel φ ν v x
theorem intV_some {k : IntKind} {n : Int} {v : AV} (h : intV k n = some v) : v = .int k n := by
  unfold intV at h; rw [normI_eq] at h; simp only [Option.some.injEq] at h; exact h.symm
theorem bits_lt {k : IntKind} {m : Nat} (h : inR k (.ofNat m) = true) : m < 2 ^ k.bits ∧ m < 2 ^ (k.bits - (if k.signed then 1 else 0)) := by
  have := (inR_bounds h).2
  cases k <;> simp [IntKind.max, IntKind.signed, IntKind.bits] at this ⊢ <;> omega
theorem wrap_small {k : IntKind} {r : Nat} (hr : r < 2 ^ (k.bits - (if k.signed then 1 else 0))) : k.wrap (r : Int) = (r : Int) := by
  cases k <;> simp [IntKind.signed, IntKind.bits] at hr <;> simp [IntKind.wrap, IntKind.signed, IntKind.bits] <;> (try split) <;> omega
theorem natBits_sound {op : BinOp} {k : IntKind} {a b r : Nat} (ha : inR k (.ofNat a) = true) (hb : inR k (.ofNat b) = true) (h : natBits op a b = some r) (P : Program) (w : World) :
    (Op.intBits op k (.ofNat a) (.ofNat b)).run P w = .ok (.int k (.ofNat r)) w := by
  have ea : (BitVec.ofInt k.bits (.ofNat a)).toNat = a := by
    simp only [Int.ofNat_eq_natCast, BitVec.ofInt_natCast, BitVec.toNat_ofNat]
    exact Nat.mod_eq_of_lt (bits_lt ha).1
  have eb : (BitVec.ofInt k.bits (.ofNat b)).toNat = b := by
    simp only [Int.ofNat_eq_natCast, BitVec.ofInt_natCast, BitVec.toNat_ofNat]
    exact Nat.mod_eq_of_lt (bits_lt hb).1
  unfold natBits at h
  split at h
  · simp only [Option.some.injEq] at h; subst h
    unfold Op.intBits
    simp only [Sem.run_pure, BitVec.toNat_and, ea, eb]
    exact congrArg (fun z => Result.ok (Value.int k z) w) (wrap_small (Nat.and_lt_two_pow _ (bits_lt hb).2))
  · simp only [Option.some.injEq] at h; subst h
    unfold Op.intBits
    simp only [Sem.run_pure, BitVec.toNat_or, ea, eb]
    exact congrArg (fun z => Result.ok (Value.int k z) w) (wrap_small (Nat.or_lt_two_pow (bits_lt ha).2 (bits_lt hb).2))
  · simp only [Option.some.injEq] at h; subst h
    unfold Op.intBits
    simp only [Sem.run_pure, BitVec.toNat_xor, ea, eb]
    exact congrArg (fun z => Result.ok (Value.int k z) w) (wrap_small (Nat.xor_lt_two_pow (bits_lt ha).2 (bits_lt hb).2))
  · cases h
theorem opInt_sound {op : BinOp} {k : IntKind} {a b : Int} {v : AV} (h : opInt op k a b = some v) (x y : Operand) (t : Nat) :
    Gives E.P φ ν w (do eqGuard op t x y (.int k a) (.int k b); binOp op t (.int k a) (.int k b)) v := by
  have g : ∀ op, (eqGuard op t x y (.int k a) (.int k b)).run E.P w = .ok () w := by
    intro op; cases op <;> simp [eqGuard]
  unfold opInt at h
  split at h
  · have := intV_some h; subst this
    exact ⟨.int k (k.wrap (a + b)), by simp [g, binOp, Op.intArith], by rw [wrapA_eq]; exact .int _ _⟩
  · have := intV_some h; subst this
    exact ⟨.int k (k.wrap (a - b)), by simp [g, binOp, Op.intArith], by rw [wrapA_eq]; exact .int _ _⟩
  · have := intV_some h; subst this
    exact ⟨.int k (k.wrap (a * b)), by simp [g, binOp, Op.intArith], by rw [wrapA_eq]; exact .int _ _⟩
  · split at h
    · cases h
    · rename_i hb
      rw [eqI_eq] at hb
      have hb' : b ≠ 0 := by simpa using hb
      have := intV_some h; subst this
      exact ⟨.int k (k.wrap (a.tdiv b)), by simp [g, binOp, Op.intDiv, hb'], by rw [wrapA_eq]; exact .int _ _⟩
  · split at h
    · cases h
    · rename_i hb
      rw [eqI_eq] at hb
      have hb' : b ≠ 0 := by simpa using hb
      have := intV_some h; subst this
      exact ⟨.int k (a.tmod b), by simp [g, binOp, Op.intDiv, hb'], .int _ _⟩
  all_goals first
    | cases h
    | skip
  all_goals
    split at h
    · split at h
      · rename_i r hx hy hr
        have := intV_some h; subst this
        exact ⟨.int k (.ofNat r), by simp only [Sem.run_bind, g, Result.andThen_ok, binOp, ne_eq, not_true, if_false]; exact natBits_sound hx hy hr _ _, .int _ _⟩
      · cases h
    · cases h
end
end Go.Ev
namespace Go.Ev
open Go Go.RowKit
/-- The unknown integers lie within their bounds. -/
def Bounded (E : Env) (ν : Nat → Int) : Prop := ∀ i lo hi, E.bnd i = some (lo, hi) → lo ≤ ν i ∧ ν i ≤ hi
section
variable {E : Env} {φ : Phi} {ν : Nat → Int} {w : World}
theorem opShift_sound {op : BinOp} {k k' : IntKind} {a b : Int} {v : AV} (hop : op = .shl ∨ op = .shr) (h : opShift op k a b = some v) (x y : Operand) (t : Nat) :
    Gives E.P φ ν w (do eqGuard op t x y (.int k a) (.int k' b); binOp op t (.int k a) (.int k' b)) v := by
  have g : (eqGuard op t x y (.int k a) (.int k' b)).run E.P w = .ok () w := by
    cases op <;> simp [eqGuard]
  unfold opShift at h
  split at h
  · rename_i n
    rcases hop with rfl | rfl
    · have := intV_some h; subst this
      refine ⟨.int k (k.wrap (a * 2 ^ (min n k.bits))), ?_, by rw [wrapA_eq]; exact .int _ _⟩
      simp only [Sem.run_bind, g, Result.andThen_ok, binOp, Op.shift]
      rw [if_neg (by simp)]
      rfl
    · have := intV_some h; subst this
      refine ⟨.int k (a.fdiv (2 ^ (min n k.bits))), ?_, .int _ _⟩
      simp only [Sem.run_bind, g, Result.andThen_ok, binOp, Op.shift]
      rw [if_neg (by simp)]
      rfl
  · cases h
theorem ltV_sound (hν : Bounded E ν) {x y : AV} {b : Bool} (h : ltV E x y = some b) {cx cy : Value} (hx : VRel φ ν x cx) (hy : VRel φ ν y cy) :
    ∃ k a c, cx = .int k a ∧ cy = .int k c ∧ decide (a < c) = b := by
  unfold ltV at h
  split at h
  · cases hx.int_inv; cases hy.int_inv
    split at h
    · rename_i hk
      have := kEq_eq hk; subst this
      simp only [Option.some.injEq] at h
      exact ⟨_, _, _, rfl, rfl, by rw [← h, ltI_eq]⟩
    · cases h
  · cases hx.sym_inv; cases hy.int_inv
    split at h
    · rename_i lo hi hb
      have := hν _ _ _ hb
      split at h
      · rename_i h1
        rw [ltI_eq] at h1
        simp only [Option.some.injEq] at h; subst h
        refine ⟨_, _, _, rfl, rfl, ?_⟩
        have := of_decide_eq_true h1
        simp; omega
      · rename_i h1
        split at h
        · rename_i h2
          rw [ltI_eq] at h2
          simp only [Option.some.injEq] at h; subst h
          refine ⟨_, _, _, rfl, rfl, ?_⟩
          have := of_decide_eq_false h2
          simp; omega
        · cases h
    · cases h
  · cases hx.int_inv; cases hy.sym_inv
    split at h
    · rename_i lo hi hb
      have := hν _ _ _ hb
      split at h
      · rename_i h1
        rw [ltI_eq] at h1
        simp only [Option.some.injEq] at h; subst h
        refine ⟨_, _, _, rfl, rfl, ?_⟩
        have := of_decide_eq_true h1
        simp; omega
      · rename_i h1
        split at h
        · rename_i h2
          rw [ltI_eq] at h2
          simp only [Option.some.injEq] at h; subst h
          refine ⟨_, _, _, rfl, rfl, ?_⟩
          have := of_decide_eq_false h2
          simp; omega
        · cases h
    · cases h
  · cases h
theorem opCmp_sound (hν : Bounded E ν) {op : BinOp} {a b : AV} {v : AV} (h : opCmp E op a b = some v) {ca cb : Value} (ha : VRel φ ν a ca) (hb : VRel φ ν b cb) (x y : Operand) (t : Nat) :
    Gives E.P φ ν w (do eqGuard op t x y ca cb; binOp op t ca cb) v := by
  unfold opCmp at h
  split at h
  · split at h
    · rename_i r hr
      obtain ⟨k, m, n, rfl, rfl, hd⟩ := ltV_sound hν hr ha hb
      simp only [boolV, Option.some.injEq] at h; subst h
      exact ⟨.bool r, by simp [eqGuard, binOp, Op.intCmp, hd], .bool _⟩
    · cases h
  · split at h
    · rename_i r hr
      obtain ⟨k, m, n, rfl, rfl, hd⟩ := ltV_sound hν hr hb ha
      simp only [boolV, Option.some.injEq] at h; subst h
      exact ⟨.bool r, by simp [eqGuard, binOp, Op.intCmp, hd], .bool _⟩
    · cases h
  · split at h
    · rename_i r hr
      obtain ⟨k, m, n, rfl, rfl, hd⟩ := ltV_sound hν hr hb ha
      simp only [boolV, Option.some.injEq] at h; subst h
      refine ⟨.bool (!r), ?_, .bool _⟩
      have : decide (n ≤ m) = !r := by rw [← hd]; by_cases q : m < n <;> simp [q] <;> omega
      simp [eqGuard, binOp, Op.intCmp, this]
    · cases h
  · split at h
    · rename_i r hr
      obtain ⟨k, m, n, rfl, rfl, hd⟩ := ltV_sound hν hr ha hb
      simp only [boolV, Option.some.injEq] at h; subst h
      refine ⟨.bool (!r), ?_, .bool _⟩
      have : decide (m ≥ n) = !r := by cases r <;> simp at hd ⊢ <;> omega
      simp [eqGuard, binOp, Op.intCmp]
      exact this
    · cases h
  · cases h
theorem ltN_bytesOf (a b : ByteArray) : ltN (bytesOf a) (bytesOf b) = Op.bytesLess a.toList b.toList := by
  rw [ByteArray.toList_eq, ByteArray.toList_eq]
  exact ltN_bytes _ _
theorem bytesOf_append (a b : ByteArray) : bytesOf (a ++ b) = bytesOf a ++ bytesOf b := by
  simp [bytesOf, ByteArray.data_append]
theorem bytesOf_length (a : ByteArray) : (bytesOf a).length = a.size := by simp [bytesOf]
theorem bytesLess_total : ∀ x y : List UInt8, Op.bytesLess x y = false → (x == y) = false → Op.bytesLess y x = true := by
  intro x
  induction x with
  | nil => intro y h1 h2; cases y <;> simp [Op.bytesLess] at h1 h2
  | cons a x ih =>
    intro y h1 h2
    cases y with
    | nil => rfl
    | cons b y =>
      simp only [Op.bytesLess, Bool.or_eq_false_iff, Bool.and_eq_false_iff, decide_eq_false_iff_not] at h1
      simp only [Op.bytesLess, Bool.or_eq_true, Bool.and_eq_true, decide_eq_true_eq]
      obtain ⟨h1, h3⟩ := h1
      by_cases e : a = b
      · subst e
        right
        refine ⟨by simp, ih y ?_ ?_⟩
        · rcases h3 with h3 | h3
          · simp at h3
          · exact h3
        · simpa using h2
      · left
        have : ¬ a.toNat < b.toNat := fun q => h1 (UInt8.lt_iff_toNat_lt.2 q)
        have h4 : a.toNat ≠ b.toNat := fun q => e (UInt8.toNat_inj.1 q)
        exact UInt8.lt_iff_toNat_lt.2 (by omega)
theorem bytesLess_irrefl : ∀ x : List UInt8, Op.bytesLess x x = false := by
  intro x
  induction x with
  | nil => rfl
  | cons a x ih => simp [Op.bytesLess, ih, UInt8.lt_irrefl]
theorem bytesLess_asymm : ∀ x y : List UInt8, Op.bytesLess x y = true → Op.bytesLess y x = false := by
  intro x
  induction x with
  | nil => intro y h; cases y <;> simp [Op.bytesLess] at h ⊢
  | cons a x ih =>
    intro y h
    cases y with
    | nil => simp [Op.bytesLess] at h
    | cons b y =>
      simp only [Op.bytesLess, Bool.or_eq_true, Bool.and_eq_true, decide_eq_true_eq] at h
      simp only [Op.bytesLess, Bool.or_eq_false_iff, Bool.and_eq_false_iff, decide_eq_false_iff_not]
      rcases h with h | ⟨h, h'⟩
      · have := UInt8.lt_iff_toNat_lt.1 h
        refine ⟨fun q => by have := UInt8.lt_iff_toNat_lt.1 q; omega, .inl ?_⟩
        simp only [beq_eq_false_iff_ne]
        intro q; subst q; omega
      · have : a = b := by simpa using h
        subst this
        exact ⟨UInt8.lt_irrefl a, .inr (ih y h')⟩
theorem leq_lists (x y : List UInt8) : (Op.bytesLess x y || (x == y)) = !(Op.bytesLess y x) := by
  cases h1 : Op.bytesLess x y with
  | true => simp [bytesLess_asymm x y h1]
  | false =>
    cases h2 : (x == y) with
    | true => have : x = y := by simpa using h2
              subst this; simp [bytesLess_irrefl]
    | false => simp [bytesLess_total x y h1 h2]
theorem opStr_sound {op : BinOp} {a b : List Nat} {v : AV} (h : opStr op a b = some v) {ca cb : Value} (ha : VRel φ ν (.str a) ca) (hb : VRel φ ν (.str b) cb) (x y : Operand) (t : Nat) :
    Gives E.P φ ν w (do eqGuard op t x y ca cb; binOp op t ca cb) v := by
  obtain ⟨s, rfl, hs⟩ := ha.str_inv
  obtain ⟨u, rfl, hu⟩ := hb.str_inv
  subst hs; subst hu
  unfold opStr at h
  split at h
  · split at h
    · rename_i hle
      simp only [Option.some.injEq] at h; subst h
      have hle' := nat_ble hle
      rw [lenL_eq, lenL_eq, bytesOf_length, bytesOf_length] at hle'
      simp only [Nat.add_eq] at hle'
      refine ⟨.string (s ++ u), ?_, by rw [appL_eq, ← bytesOf_append]; exact .str _⟩
      simp only [Sem.run_bind, eqGuard, binOp, Op.stringOp]
      have q : ¬ ((s.size + u.size : Nat) : Int) > IntKind.i64.max := by
        have : IntKind.i64.max = 9223372036854775807 := rfl
        rw [this]; omega
      rw [if_neg q]
      simp
    · cases h
  · simp only [boolV, Option.some.injEq] at h; subst h
    refine ⟨.bool (Op.bytesLess s.toList u.toList), by simp [eqGuard, binOp, Op.stringOp], by rw [ltN_bytesOf]; exact .bool _⟩
  · simp only [boolV, Option.some.injEq] at h; subst h
    refine ⟨.bool (Op.bytesLess u.toList s.toList), ?_, by rw [ltN_bytesOf]; exact .bool _⟩
    have := leq_lists s.toList u.toList
    simp [eqGuard, binOp, Op.stringOp]
    rw [← Bool.not_or, this]; simp
  · simp only [boolV, Option.some.injEq] at h; subst h
    refine ⟨.bool (!(Op.bytesLess u.toList s.toList)), ?_, by rw [ltN_bytesOf]; exact .bool _⟩
    have := leq_lists s.toList u.toList
    simp [eqGuard, binOp, Op.stringOp, this]
  · simp only [boolV, Option.some.injEq] at h; subst h
    exact ⟨.bool (!(Op.bytesLess s.toList u.toList)), by simp [eqGuard, binOp, Op.stringOp], by rw [ltN_bytesOf]; exact .bool _⟩
  · cases h
end
end Go.Ev
namespace Go.Ev
open Go Go.RowKit
section
variable {E : Env} {φ : Phi} {ν : Nat → Int} {w : World}
theorem guardA_sound {op : BinOp} {t : Nat} {x y : Operand} {a b : AV} (h : guardA E t x y a b = true) {ca cb : Value} (ha : VRel φ ν a ca) (hb : VRel φ ν b cb) :
    (eqGuard op t x y ca cb).run E.P w = .ok () w := by
  have key : ∀ op, op = BinOp.eql ∨ op = BinOp.neq → (eqGuard op t x y ca cb).run E.P w = .ok () w := by
    intro op hop
    unfold guardA at h
    split at h
    · cases ha.nilIface_inv; cases hb.nilIface_inv
      rcases hop with rfl | rfl <;> cases x <;> cases y <;> first
        | rfl
        | (simp [isConstA] at h; done)
    · obtain ⟨cs, rfl, _⟩ := ha.agg_inv; obtain ⟨ds, rfl, _⟩ := hb.agg_inv
      simp only [Bool.not_eq_true'] at h
      rcases hop with rfl | rfl <;> simp [eqGuard, h]
    · rw [Bool.and_eq_true] at h
      obtain ⟨g1, g2⟩ := h
      rcases hop with rfl | rfl <;> cases ha <;> cases hb <;> first
        | (cases g1; done)
        | (cases g2; done)
        | rfl
        | (exfalso; simp_all; done)
  cases op <;> first
    | rfl
    | exact key _ (.inl rfl)
    | exact key _ (.inr rfl)
theorem eqV_sound {t : Nat} {a b : AV} {r : Bool} (h : eqV E t a b = some r) (ha' : oldV a = true) (hb' : oldV b = true) {ca cb : Value} (ha : VRel φ ν a ca) (hb : VRel φ ν b cb) :
    (binOp .eql t ca cb).run E.P w = .ok (.bool r) w ∧ (binOp .neq t ca cb).run E.P w = .ok (.bool !r) w := by
  unfold eqV at h
  split at h
  · cases ha.int_inv; cases hb.int_inv
    split at h
    · rename_i hk
      have := kEq_eq hk; subst this
      simp only [Option.some.injEq] at h; subst h
      rw [eqI_eq]
      refine ⟨by simp [binOp, Op.intCmp]; first | done | rfl, by simp [binOp, Op.intCmp]; first | done | rfl⟩
    · cases h
  · obtain ⟨s, rfl, hs⟩ := ha.str_inv; obtain ⟨u, rfl, hu⟩ := hb.str_inv
    subst hs; subst hu
    simp only [Option.some.injEq] at h; subst h
    rw [eqN_bytes]
    simp [binOp, Op.stringOp]
  · cases ha.sym_inv; cases hb.sym_inv
    split at h
    · rename_i hk
      have := nat_beq hk; subst this
      simp only [Option.some.injEq] at h; subst h
      simp [binOp, Op.intCmp]
    · cases h
  · cases h
  · cases h
  · rename_i h1 h2 h3 h4 h5
    have hr := eqA_sound eqD 10000 (by decide) t a b r ca cb w h ha hb
    have e1 : binOp .eql t ca cb = (do pure (.bool (← Op.equal t ca cb))) := by
      cases ha <;> cases hb <;> first
        | (cases ha'; done)
        | (cases hb'; done)
        | rfl
        | (exact (h1 _ _ _ _ rfl rfl).elim)
        | (exact (h2 _ _ rfl rfl).elim)
        | (exact (h3 _ _ rfl rfl).elim)
        | (exact (h4 _ _ _ rfl rfl).elim)
        | (exact (h5 _ _ _ rfl rfl).elim)
    have e2 : binOp .neq t ca cb = (do pure (.bool (!(← Op.equal t ca cb)))) := by
      cases ha <;> cases hb <;> first
        | (cases ha'; done)
        | (cases hb'; done)
        | rfl
        | (exact (h1 _ _ _ _ rfl rfl).elim)
        | (exact (h2 _ _ rfl rfl).elim)
        | (exact (h3 _ _ rfl rfl).elim)
        | (exact (h4 _ _ _ rfl rfl).elim)
        | (exact (h5 _ _ _ rfl rfl).elim)
    rw [e1, e2]
    simp only [Sem.run_bind, Op.equal, Op.maxDepth, hr, Result.andThen_ok, Sem.run_pure]
    first | done | exact ⟨trivial, trivial⟩ | exact ⟨rfl, rfl⟩
theorem guardA_any {t : Nat} {x y : Operand} {a b : AV} (h : guardA E t x y a b = true) : oldV a = true ∧ oldV b = true := by
  unfold guardA at h
  split at h
  · exact ⟨rfl, rfl⟩
  · exact ⟨rfl, rfl⟩
  · rw [Bool.and_eq_true] at h; exact h
theorem opEq_sound {neg : Bool} {t : Nat} {x y : Operand} {a b v : AV} (h : opEq E neg t x y a b = some v) {ca cb : Value} (ha : VRel φ ν a ca) (hb : VRel φ ν b cb) {op : BinOp} (hop : op = if neg then .neq else .eql) :
    Gives E.P φ ν w (do eqGuard op t x y ca cb; binOp op t ca cb) v := by
  unfold opEq at h
  split at h
  · rename_i r hg he
    simp only [boolV, Option.some.injEq] at h; subst h
    obtain ⟨n1, n2⟩ := guardA_any hg
    obtain ⟨e1, e2⟩ := eqV_sound (w := w) he n1 n2 ha hb
    subst hop
    cases neg
    · exact ⟨.bool r, by simp only [Bool.false_eq_true, if_false, Sem.run_bind, guardA_sound hg ha hb, Result.andThen_ok, e1], .bool _⟩
    · exact ⟨.bool (!r), by simp only [if_true, Sem.run_bind, guardA_sound hg ha hb, Result.andThen_ok, e2], .bool _⟩
  · cases h
theorem opBin_sound (hν : Bounded E ν) {op : BinOp} {t : Nat} {x y : Operand} {a b v : AV} (h : opBin E op t x y a b = some v) {ca cb : Value} (ha : VRel φ ν a ca) (hb : VRel φ ν b cb) :
    Gives E.P φ ν w (do eqGuard op t x y ca cb; binOp op t ca cb) v := by
  unfold opBin at h
  split at h
  · exact opEq_sound h ha hb rfl
  · exact opEq_sound h ha hb rfl
  · split at h
    · cases ha.int_inv; cases hb.int_inv; exact opShift_sound (.inl rfl) h x y t
    · cases h
  · split at h
    · cases ha.int_inv; cases hb.int_inv; exact opShift_sound (.inr rfl) h x y t
    · cases h
  all_goals first
    | (split at h
       · exact opStr_sound h ha hb x y t
       · exact opCmp_sound hν h ha hb x y t
       done)
    | skip
  · split at h
    · cases ha.int_inv; cases hb.int_inv
      split at h
      · rename_i hk
        have := kEq_eq hk; subst this
        exact opInt_sound h x y t
      · cases h
    · exact opStr_sound h ha hb x y t
    · cases h
end
end Go.Ev
namespace Go.Ev
open Go Go.RowKit
section
variable {E : Env} {φ : Phi} {ν : Nat → Int} {w : World}
theorem opUn_sound {op : UnOp} {x v : AV} (h : opUn op x = some v) {cx : Value} (hx : VRel φ ν x cx) : Gives E.P φ ν w (Op.unary op cx) v := by
  unfold opUn at h
  split at h
  · cases hx.bool_inv
    simp only [boolV, Option.some.injEq] at h; subst h
    exact ⟨_, rfl, .bool _⟩
  · cases hx.int_inv
    have := intV_some h; subst this
    exact ⟨_, rfl, by rw [wrapA_eq]; exact .int _ _⟩
  · cases h
theorem convP_sound {s d : Nat} {x v : AV} (h : convP E s d x = some v) {cx : Value} (hx : VRel φ ν x cx) : Gives E.P φ ν w (convert s d cx) v := by
  unfold convP at h
  split at h
  · rename_i us ud hus hud
    split at h
    · cases hx.int_inv
      have := intV_some h; subst this
      refine ⟨_, ?_, by rw [wrapA_eq]; exact .int _ _⟩
      simp [convert, run_underlying hus, run_underlying hud, Conv.intToInt]
    · obtain ⟨b, rfl, hb⟩ := hx.str_inv
      simp only [Option.some.injEq] at h; subst h
      refine ⟨.string b, ?_, hx⟩
      simp [convert, run_underlying hus, run_underlying hud]
    · cases h
  · cases h
theorem opMakeIface_sound {t : Nat} {x v : AV} (h : opMakeIface E t x = some v) {cx : Value} (hx : VRel φ ν x cx) : Gives E.P φ ν w (Instr.makeInterface t cx) v := by
  unfold opMakeIface at h
  split at h
  · cases h
  · rename_i d hne hd
    simp only [Option.some.injEq] at h; subst h
    refine ⟨.iface t cx, ?_, .iface hx⟩
    simp only [Instr.makeInterface, Sem.run_bind, run_underlying hd, Result.andThen_ok]
    rfl
  · cases h
theorem opExtract_sound {x v : AV} {i : Nat} (h : opExtract x i = some v) {cx : Value} (hx : VRel φ ν x cx) : Gives E.P φ ν w (Instr.extract cx i) v := by
  unfold opExtract at h
  split at h
  · obtain ⟨cs, rfl, hcs⟩ := hx.tup_inv
    split at h
    · rename_i y hy
      simp only [Option.some.injEq] at h; subst h
      rw [getL_eq] at hy
      obtain ⟨c, hc, hv⟩ := hcs.get hy
      exact ⟨c, by simp [Instr.extract, hc], hv⟩
    · cases h
  · cases h
theorem addr_add (b o n : Nat) : (⟨b, o, none⟩ : Addr).add n = ⟨b, o + n, none⟩ := by
  unfold Addr.add
  split
  · rename_i h; subst h; rfl
  · rfl
theorem opFieldAddr_sound {s : Nat} {x v : AV} {f : Nat} (h : opFieldAddr E s x f = some v) {cx : Value} (hx : VRel φ ν x cx) : Gives E.P φ ν w (Instr.fieldAt s cx f) v := by
  unfold opFieldAddr at h
  split at h
  · rename_i id off fields hs
    obtain ⟨L, hL, rfl⟩ := hx.ptr_inv
    split at h
    · rename_i fd hfd
      split at h
      · rename_i size hsz
        obtain ⟨i, hi, rfl⟩ := sizeA_some hsz
        split at h
        · cases h
        · rename_i h0
          simp only [force_eq, Option.some.injEq] at h; subst h
          refine ⟨.pointer (some ⟨L.b, L.off + (off + fd.offset), none⟩), ?_, .ptr hL⟩
          simp only [Instr.fieldAt, Sem.run_bind, run_underlying hs, Result.andThen_ok, hfd, Instr.sureAddr, Sem.run_pure, fieldPlace, run_size hi]
          rw [Sem.run_ite, if_neg (nat_beq_false h0)]
          simp [addr_add, Nat.add_assoc]
      · cases h
    · cases h
  · cases h
theorem opField_sound {t : Nat} {x v : AV} {f : Nat} (h : opField E t x f = some v) {cx : Value} (hx : VRel φ ν x cx) : Gives E.P φ ν w (Instr.field t cx f) v := by
  unfold opField at h
  split at h
  · rename_i cs fields hs
    obtain ⟨ccs, rfl, hcs⟩ := hx.agg_inv
    split at h
    · rename_i fd hfd
      split at h
      · rename_i y hy
        simp only [Option.some.injEq] at h; subst h
        obtain ⟨c, hc, hv⟩ := partA_sound hy hcs w
        refine ⟨c, ?_, hv⟩
        simp [Instr.field, run_underlying hs, hfd, asAgg, hc]
      · cases h
    · cases h
  · cases h
theorem opIndexAddr_sound {t : Nat} {x ix v : AV} (h : opIndexAddr E t x ix = some v) {cx ci : Value} (hx : VRel φ ν x cx) (hi : VRel φ ν ix ci) : Gives E.P φ ν w (Instr.indexAt t cx ci) v := by
  unfold opIndexAddr at h
  split at h
  · rename_i k i n e ht
    cases hi.int_inv
    split at h
    · rename_i id off size hsz hlt
      obtain ⟨L, hL, rfl⟩ := hx.ptr_inv
      obtain ⟨inf, hinf, rfl⟩ := sizeA_some hsz
      simp only [force_eq, Option.some.injEq] at h; subst h
      have hlt' := nat_blt hlt
      refine ⟨.pointer (some ⟨L.b, L.off + (off + i * inf.size), none⟩), ?_, .ptr hL⟩
      simp only [Instr.indexAt, Sem.run_bind, asIntOf, Sem.run_pure, Result.andThen_ok, run_underlying ht, Instr.sureAddr]
      simp only [Sem.run_ite, Sem.run_bind, run_size hinf, Result.andThen_ok, Sem.run_pure]
      rw [if_pos ⟨by simp, by simp; omega⟩]; simp [addr_add, Nat.add_assoc]
    · cases h
  · rename_i k i e ht
    cases hi.int_inv
    split at h
    · rename_i id off len cap size hsz
      obtain ⟨L, a, c, rfl, hS⟩ := hx.slice_inv
      obtain ⟨inf, hinf, rfl⟩ := sizeA_some hsz
      split at h
      · rename_i hlt
        simp only [force_eq, Option.some.injEq] at h; subst h
        have hlt' := nat_blt hlt
        have hc : c ≠ 0 := by have := hS.le; omega
        have ha := hS.addr hc; subst ha
        refine ⟨.pointer (some ⟨L.b, L.off + (off + i * inf.size), none⟩), ?_, .ptr hS.loc⟩
        simp only [Instr.indexAt, Sem.run_bind, asIntOf, Sem.run_pure, Result.andThen_ok, run_underlying ht, Instr.sureAddr]
        simp only [Sem.run_ite, Sem.run_bind, run_size hinf, Result.andThen_ok, Sem.run_pure]
        rw [if_pos ⟨by simp, by simp; omega⟩]; simp [addr_add, Nat.add_assoc]
      · cases h
    · cases h
  · cases h
end
end Go.Ev
namespace Go.Ev
open Go Go.RowKit
section
variable {E : Env} {φ : Phi} {ν : Nat → Int} {w : World}
theorem getElem_bytes (s : ByteArray) (i b : Nat) (h : (bytesOf s)[i]? = some b) : ∃ u : UInt8, s[i]? = some u ∧ u.toNat = b := by
  simp only [bytesOf, List.getElem?_map, Option.map_eq_some_iff] at h
  obtain ⟨u, hu, hb⟩ := h
  refine ⟨u, ?_, hb⟩
  have hi : i < s.size := by
    rcases Nat.lt_or_ge i s.size with h' | h'
    · exact h'
    · have : s.data.toList.length ≤ i := h'
      rw [List.getElem?_eq_none this] at hu; cases hu
  have hi' : i < s.data.toList.length := hi
  rw [List.getElem?_eq_getElem hi'] at hu
  simp only [Option.some.injEq] at hu
  rw [getElem?_pos s i hi]
  simp only [Option.some.injEq]
  rw [← hu]; rfl
theorem opIndex_sound {t : Nat} {x ix v : AV} (h : opIndex E t x ix = some v) {cx ci : Value} (hx : VRel φ ν x cx) (hi : VRel φ ν ix ci) : Gives E.P φ ν w (Instr.index t cx ci) v := by
  unfold opIndex at h
  split at h
  · rename_i k i ht
    cases hi.int_inv
    split at h
    · obtain ⟨b, rfl, hb⟩ := hx.str_inv
      subst hb
      split at h
      · rename_i c hc
        simp only [Option.some.injEq] at h; subst h
        rw [getL_eq] at hc
        obtain ⟨u, hu, hu'⟩ := getElem_bytes b i c hc
        refine ⟨.int .u8 u.toNat, ?_, by rw [← hu']; exact .int _ _⟩
        simp [Instr.index, asIntOf, run_underlying ht, hu]
      · cases h
    · cases h
  · rename_i k i n e ht
    cases hi.int_inv
    split at h
    · rename_i cs size hsz hlt
      obtain ⟨ccs, rfl, hcs⟩ := hx.agg_inv
      obtain ⟨inf, hinf, rfl⟩ := sizeA_some hsz
      split at h
      · rename_i y hy
        simp only [Option.some.injEq] at h; subst h
        obtain ⟨c, hc, hv⟩ := partA_sound hy hcs w
        have hlt' := nat_blt hlt
        refine ⟨c, ?_, hv⟩
        simp only [Instr.index, Sem.run_bind, asIntOf, Sem.run_pure, Result.andThen_ok, run_underlying ht, Sem.run_ite, run_size hinf]
        rw [if_pos ⟨by simp, by simp; omega⟩]
        exact hc
      · cases h
    · cases h
  · cases h
theorem opTypeAssert_sound {t u : Nat} {x v : AV} {ok : Bool} (h : opTypeAssert E x t ok = some v) {cx : Value} (hx : VRel φ ν x cx) : Gives E.P φ ν w (Instr.typeAssert cx u t ok) v := by
  unfold opTypeAssert at h
  split at h
  · cases h
  · rename_i d hne hd
    have hd' := run_underlying hd w
    split at h
    · rename_i z hz
      cases hx.nilIface_inv
      obtain ⟨i, zv, hi, hzv, hv⟩ := zeroA_sound (φ := φ) (ν := ν) hz
      simp only [Option.some.injEq] at h; subst h
      refine ⟨.tuple #[zv, .bool false], ?_, VRel.tup' (cs := [zv, .bool false]) (.cons hv (.cons (.bool _) .nil))⟩
      simp only [Instr.typeAssert, Sem.run_bind, hd', Result.andThen_ok, if_true, run_zero hi hzv, Sem.run_pure]
    · rename_i t' y z hz
      obtain ⟨cy, rfl, hy⟩ := hx.iface_inv
      obtain ⟨i, zv, hi, hzv, hv⟩ := zeroA_sound (φ := φ) (ν := ν) hz
      split at h
      · rename_i e
        have := nat_beq e; subst this
        simp only [Option.some.injEq] at h; subst h
        refine ⟨.tuple #[cy, .bool true], ?_, VRel.tup' (cs := [cy, .bool true]) (.cons hy (.cons (.bool _) .nil))⟩
        simp only [Instr.typeAssert, Sem.run_bind, hd', Result.andThen_ok, if_true, Sem.run_pure]
      · rename_i e
        have hne' := nat_beq_false e
        simp only [Option.some.injEq] at h; subst h
        refine ⟨.tuple #[zv, .bool false], ?_, VRel.tup' (cs := [zv, .bool false]) (.cons hv (.cons (.bool _) .nil))⟩
        simp only [Instr.typeAssert, Sem.run_bind, hd', Result.andThen_ok, if_neg hne', if_true, run_zero hi hzv, Sem.run_pure]
    · rename_i t' y z
      obtain ⟨cy, rfl, hy⟩ := hx.iface_inv
      split at h
      · rename_i e
        have := nat_beq e; subst this
        simp only [Option.some.injEq] at h; subst h
        refine ⟨cy, ?_, hy⟩
        simp only [Instr.typeAssert, Sem.run_bind, hd', Result.andThen_ok, if_true, Bool.false_eq_true, if_false, Sem.run_pure]
      · cases h
    · cases h
  · cases h
inductive OVRel (φ : Phi) (ν : Nat → Int) : Option AV → Option Value → Prop
  | none : OVRel φ ν none none
  | some {a : AV} {v : Value} : VRel φ ν a v → OVRel φ ν (some a) (some v)
/-- A bound of a slice expression. -/
theorem bnd1k_sound {x : Option AV} {dflt y n : Nat} (h : bnd1 x dflt y = some n) {cx : Option Value} (hx : OVRel φ ν x cx) (code : Go.BoundsCode) :
    (match cx with | some v => Instr.sliceBound v y code | none => pure dflt : Sem Nat).run E.P w = .ok n w ∧ (n = dflt ∨ n ≤ y) := by
  cases hx with
  | none =>
    simp only [bnd1, Option.some.injEq] at h; subst h
    exact ⟨rfl, .inl rfl⟩
  | some hv =>
    unfold bnd1 at h
    split at h
    · rename_i e; cases e
    · rename_i k m e
      simp only [Option.some.injEq] at e; subst e
      split at h
      · rename_i hle
        simp only [Option.some.injEq] at h; subst h
        cases hv.int_inv
        have hle' := nat_ble hle
        refine ⟨?_, .inr hle'⟩
        simp only [Instr.sliceBound, Sem.run_bind, asIntOf, Sem.run_pure, Result.andThen_ok, Sem.run_ite]
        rw [if_pos ⟨by simp, by simp; omega⟩]
        rfl
      · cases h
    · cases h
theorem OVRel.isSome {x : Option AV} {cx : Option Value} (h : OVRel φ ν x cx) : cx.isSome = x.isSome := by cases h <;> rfl
theorem bytesOf_extract (s : ByteArray) (l h : Nat) : bytesOf (s.extract l h) = dropL l (takeL h (bytesOf s)) := by
  rw [dropL_eq, takeL_eq]
  simp [bytesOf, ByteArray.data_extract, List.extract_eq_take_drop, List.map_drop, List.map_take, List.drop_take]
theorem opSliceStr_sound {s : List Nat} {lo hi : Option AV} {v : AV} (h : opSliceStr s lo hi = some v) {cx : Value} (hx : VRel φ ν (.str s) cx) {clo chi : Option Value} (hlo : OVRel φ ν lo clo) (hhi : OVRel φ ν hi chi)
    {t : Nat} (ht : E.P.underlying t = some .string) : Gives E.P φ ν w (Instr.slice t cx clo chi none) v := by
  obtain ⟨b, rfl, hb⟩ := hx.str_inv
  subst hb
  unfold opSliceStr at h
  rw [lenL_eq, bytesOf_length] at h
  split at h
  · rename_i hh e1
    split at h
    · rename_i ll e2
      simp only [Option.some.injEq] at h; subst h
      have q1 := (bnd1k_sound (E := E) (w := w) e1 hhi .sliceAlen).1
      have q2 := (bnd1k_sound (E := E) (w := w) e2 hlo .sliceB).1
      refine ⟨.string (b.extract ll hh), ?_, by rw [← bytesOf_extract]; exact .str _⟩
      simp only [Instr.slice, Sem.run_bind, run_underlying ht, Result.andThen_ok, Option.isSome_none, Bool.false_eq_true, if_false, Sem.run_pure, Instr.sliceBounds]
      cases chi <;> cases clo <;> simp_all
    · cases h
  · cases h
end
end Go.Ev
namespace Go.Ev
open Go Go.RowKit
section
variable {E : Env} {φ : Phi} {ν : Nat → Int} {w : World}
/-- A bound that is within a lesser limit is within a greater one. -/
theorem bnd1k_sound' {x : Option AV} {dflt y y' n : Nat} (h : bnd1 x dflt y = some n) (hy : y ≤ y') {cx : Option Value} (hx : OVRel φ ν x cx) (code : Go.BoundsCode) :
    (match cx with | some v => Instr.sliceBound v y' code | none => pure dflt : Sem Nat).run E.P w = .ok n w := by
  have h' : bnd1 x dflt y' = some n := by
    unfold bnd1 at h ⊢
    split at h
    · exact h
    · split at h
      · rename_i hle
        have : Nat.ble _ y' = true := Nat.ble_eq_true_of_le (Nat.le_trans (nat_ble hle) hy)
        simp only [this]; exact h
      · cases h
    · cases h
  exact (bnd1k_sound h' hx code).1
theorem bnd1k_le {x : Option AV} {dflt y n : Nat} (h : bnd1 x dflt y = some n) (hd : dflt ≤ y) : n ≤ y := by
  unfold bnd1 at h
  split at h
  · simp only [Option.some.injEq] at h; omega
  · split at h
    · rename_i hle
      simp only [Option.some.injEq] at h; subst h; exact nat_ble hle
    · cases h
  · cases h
/-- What 'sliceBounds' comes to. -/
theorem sliceBounds_sound {lo hi mx : Option AV} {clo chi cmx : Option Value} (hlo : OVRel φ ν lo clo) (hhi : OVRel φ ν hi chi) (hmx : OVRel φ ν mx cmx) (hsm : (someB mx && !(someB hi)) = false)
    {b : Bool} {len cap dm ym x h l yh : Nat} (e0 : bnd1 mx dm ym = some x) (hm0 : ym ≤ cap) (hd0 : mx = none → dm = cap) (e1 : bnd1 hi len yh = some h) (hh : yh ≤ x) (e2 : bnd1 lo 0 h = some l) :
    (Instr.sliceBounds b len cap clo chi cmx).run E.P w = .ok (l, h, x) w := by
  have q0 := bnd1k_sound' (E := E) (w := w) e0 hm0 hmx (if b then .slice3Acap else .slice3Alen)
  unfold Instr.sliceBounds
  cases hmx with
  | none =>
    have : x = cap := by simp only [bnd1, Option.some.injEq] at e0; rw [← e0]; exact hd0 rfl
    subst this
    have q1 := bnd1k_sound' (E := E) (w := w) e1 hh hhi (if b then .sliceAcap else .sliceAlen)
    have q2 := (bnd1k_sound (E := E) (w := w) e2 hlo .sliceB).1
    cases hhi <;> cases hlo <;> simp_all
  | some hv =>
    cases hhi with
    | none => simp [someB] at hsm
    | some hv' =>
      have q1 := bnd1k_sound' (E := E) (w := w) e1 hh (OVRel.some hv') .slice3B
      have q2 := (bnd1k_sound (E := E) (w := w) e2 hlo .slice3C).1
      cases hlo <;> simp_all
theorem opSliceSl_sound {size id off len : Nat} {cap : ACap} {lo hi mx : Option AV} {v : AV} (h : opSliceSl size id off len cap lo hi mx = some v)
    {L : Loc} {a : Addr} {c : Nat} (hS : SRel φ id off len cap L a c) (hsize : size ≠ 0)
    {clo chi cmx : Option Value} (hlo : OVRel φ ν lo clo) (hhi : OVRel φ ν hi chi) (hmx : OVRel φ ν mx cmx) (b : Bool) :
    ∃ l k x, (Instr.sliceBounds b len c clo chi cmx).run E.P w = .ok (l, k, x) w ∧ VRel φ ν v (.slice (some (if x = l then a else a.add (l * size))) (k - l) (x - l)) := by
  unfold opSliceSl at h
  split at h
  · cases h
  · rename_i hsm
    obtain ⟨hl, ha, hle, hc⟩ := hS
    have fin : ∀ (x k l : Nat) (cap' : ACap), l ≤ k → k ≤ x → x ≤ c → sliceTo id off size l k cap' = some v → (match cap' with | .exact n => x - l = n | .opn sz => 0 < sz ∧ (off + l * size) + (x - l) * sz = L.e) →
        VRel φ ν v (.slice (some (if x = l then a else a.add (l * size))) (k - l) (x - l)) := by
      intro x k l cap' h1 h2 h3 hv hcap
      simp only [sliceTo, force_eq, Option.some.injEq] at hv
      subst hv
      refine SRel.vrel ⟨hl, fun hne => ?_, (by show k - l ≤ x - l; omega), hcap⟩
      have hxl : x ≠ l := by omega
      rw [if_neg hxl, ha (by omega), addr_add]
      simp [Nat.add_assoc]
    split at h
    · rename_i n
      simp only at hc; subst hc
      split at h
      · rename_i x e0
        split at h
        · rename_i k e1
          split at h
          · rename_i l e2
            have hx : x ≤ c := bnd1k_le e0 (Nat.le_refl _)
            have hk : k ≤ x := by
              cases hhi with
              | some _ =>
                rcases (bnd1k_sound (E := E) (w := w) e1 (OVRel.some ‹_›) .sliceB).2 with q | q
                · unfold bnd1 at e1
                  split at e1
                  · rename_i e; cases e
                  · split at e1
                    · rename_i hle'; simp only [Option.some.injEq] at e1; subst e1; exact nat_ble hle'
                    · cases e1
                  · cases e1
                · exact q
              | none =>
                cases hmx with
                | some _ => simp [someB] at hsm
                | none => simp only [bnd1, Option.some.injEq] at e0 e1; omega
            have hl' : l ≤ k := bnd1k_le e2 (Nat.zero_le _)
            exact ⟨l, k, x, sliceBounds_sound hlo hhi hmx hsm e0 (Nat.le_refl _) (fun _ => rfl) e1 (Nat.le_refl _) e2, fin x k l _ hl' hk hx h rfl⟩
          · cases h
        · cases h
      · cases h
    · rename_i sz
      simp only at hc
      split at h
      · rename_i hb
        have hsz := nat_beq hb; subst hsz
        split at h
        · rename_i k e1
          split at h
          · rename_i l e2
            have hk : k ≤ len := bnd1k_le e1 (Nat.le_refl _)
            have hl' : l ≤ k := bnd1k_le e2 (Nat.zero_le _)
            refine ⟨l, k, c, sliceBounds_sound (dm := c) (ym := c) hlo hhi hmx hsm (by cases hmx; rfl) (Nat.le_refl _) (fun _ => rfl) e1 hle e2, fin c k l _ hl' (by omega) (Nat.le_refl _) h ⟨hc.1, ?_⟩⟩
            have : l * sz + (c - l) * sz = c * sz := by rw [← Nat.add_mul]; congr 1; omega
            omega
          · cases h
        · cases h
      · rename_i hb
        have hsz := nat_beq hb; subst hsz
        split at h
        · rename_i x e0
          split at h
          · rename_i k e1
            split at h
            · rename_i l e2
              have hx : x ≤ len := bnd1k_le e0 (Nat.zero_le _)
              have hk : k ≤ x := by
                cases hhi with
                | some _ =>
                  unfold bnd1 at e1
                  split at e1
                  · rename_i e; cases e
                  · split at e1
                    · rename_i hle'; simp only [Option.some.injEq] at e1; subst e1; exact nat_ble hle'
                    · cases e1
                  · cases e1
                | none => cases hmx; simp [someB] at hsm
              have hl' : l ≤ k := bnd1k_le e2 (Nat.zero_le _)
              exact ⟨l, k, x, sliceBounds_sound hlo hhi hmx hsm e0 hle (fun e => by cases hmx; cases e) e1 (Nat.le_refl _) e2, fin x k l _ hl' hk (by omega) h rfl⟩
            · cases h
          · cases h
        · cases h
      · cases h
end
end Go.Ev
namespace Go.Ev
open Go Go.RowKit
section
variable {E : Env} {φ : Phi} {ν : Nat → Int} {w : World}
theorem opSlice_sound {t : Nat} {x : AV} {lo hi mx : Option AV} {v : AV} (h : opSlice E t x lo hi mx = some v) {cx : Value} (hx : VRel φ ν x cx)
    {clo chi cmx : Option Value} (hlo : OVRel φ ν lo clo) (hhi : OVRel φ ν hi chi) (hmx : OVRel φ ν mx cmx) : Gives E.P φ ν w (Instr.sliceAt t cx clo chi cmx) v := by
  unfold opSlice at h
  split at h
  · rename_i ht
    split at h
    · cases hmx
      obtain ⟨y, hy, hv⟩ := opSliceStr_sound (w := w) h hx hlo hhi ht
      exact ⟨y, by simp only [Instr.sliceAt, Sem.run_bind, run_underlying ht, Result.andThen_ok]; exact hy, hv⟩
    · cases h
  · rename_i e ht
    split at h
    · rename_i size id off len cap hsz
      obtain ⟨inf, hinf, rfl⟩ := sizeA_some hsz
      obtain ⟨L, a, c, rfl, hS⟩ := hx.slice_inv
      split at h
      · cases h
      · rename_i h0
        obtain ⟨l, k, x, hb, hv⟩ := opSliceSl_sound (E := E) (w := w) h hS (nat_beq_false h0) hlo hhi hmx true
        refine ⟨_, ?_, hv⟩
        simp only [Instr.sliceAt, Instr.slice, Sem.run_bind, run_underlying ht, Result.andThen_ok, hb, run_size hinf, Sem.run_pure]
        by_cases q : x = l <;> simp [q]
    · rename_i szn hszn
      cases hx.nilSlice_inv
      split at h
      · rename_i m0 h0 l0 hsm e0 e1 e2
        simp only [Option.some.injEq] at h; subst h
        have z0 : m0 = 0 := by have := bnd1k_le e0 (Nat.le_refl _); omega
        have z1 : h0 = 0 := by have := bnd1k_le e1 (Nat.le_refl _); omega
        have z2 : l0 = 0 := by have := bnd1k_le e2 (Nat.le_refl _); omega
        subst z0; subst z1; subst z2
        obtain ⟨inf, hinf, rfl⟩ := sizeA_some hszn
        have hb := sliceBounds_sound (E := E) (w := w) (b := true) (len := 0) hlo hhi hmx hsm e0 (Nat.le_refl _) (fun _ => rfl) e1 (Nat.le_refl _) e2
        refine ⟨.slice none 0 0, ?_, .nilSlice⟩
        simp only [Instr.sliceAt, Instr.slice, Sem.run_bind, run_underlying ht, Result.andThen_ok, hb, run_size hinf, Sem.run_pure]
        rfl
      · cases h
    · cases h
  · rename_i n e ht
    split at h
    · rename_i size id off hsz
      obtain ⟨inf, hinf, rfl⟩ := sizeA_some hsz
      obtain ⟨L, hL, rfl⟩ := hx.ptr_inv
      split at h
      · cases h
      · rename_i h0
        have hS : SRel φ id off n (.exact n) L ⟨L.b, L.off + off, none⟩ n := ⟨hL, fun _ => rfl, Nat.le_refl _, rfl⟩
        obtain ⟨l, k, x, hb, hv⟩ := opSliceSl_sound (E := E) (w := w) h hS (nat_beq_false h0) hlo hhi hmx false
        refine ⟨_, ?_, hv⟩
        simp only [Instr.sliceAt, Sem.run_bind, run_underlying ht, Result.andThen_ok, Instr.sureAddr, hb, run_size hinf, Sem.run_pure]
    · cases h
  · cases h
theorem opPick_sound {c a b v : AV} (h : opPick c a b = some v) {cc ca cb : Value} (hc : VRel φ ν c cc) (ha : VRel φ ν a ca) (hb : VRel φ ν b cb) :
    Gives E.P φ ν w (do pure (if ← asBool cc then ca else cb)) v := by
  unfold opPick at h
  split at h
  · cases hc.bool_inv; simp only [Option.some.injEq] at h; subst h; exact ⟨ca, by simp [asBool], ha⟩
  · cases hc.bool_inv; simp only [Option.some.injEq] at h; subst h; exact ⟨cb, by simp [asBool], hb⟩
  · cases h
theorem bCap_sound {t : Nat} {x v : AV} (h : bCap E t x = some v) {cx : Value} (hx : VRel φ ν x cx) {ts : Array TypeId} {u : Nat} (ht : ts[0]? = some t) : Gives E.P φ ν w (Builtin.cap_ ts u #[cx]) v := by
  unfold bCap at h
  split at h
  · rename_i e hu
    obtain ⟨L, a, c, rfl, hS⟩ := hx.slice_inv
    simp only [Option.some.injEq] at h; subst h
    have := hS.cap; simp only at this; subst this
    exact ⟨_, by simp [Builtin.cap_, ht, run_underlying hu, goInt], .int _ _⟩
  · rename_i e hu
    cases hx.nilSlice_inv
    simp only [Option.some.injEq] at h; subst h
    exact ⟨_, by simp [Builtin.cap_, ht, run_underlying hu, goInt], .int _ _⟩
  · cases h
theorem bUnsafeSliceData_sound {x v : AV} (h : bUnsafeSliceData x = some v) {cx : Value} (hx : VRel φ ν x cx) {ts : Array TypeId} {u : Nat} : Gives E.P φ ν w (Builtin.unsafeSliceData_ ts u #[cx]) v := by
  unfold bUnsafeSliceData at h
  split at h
  · cases hx.nilSlice_inv
    simp only [Option.some.injEq] at h; subst h
    exact ⟨_, rfl, .nilPtr⟩
  · rename_i id off len cap
    obtain ⟨L, a, c, rfl, hS⟩ := hx.slice_inv
    have fin : c ≠ 0 → Gives E.P φ ν w (Builtin.unsafeSliceData_ ts u #[.slice (some a) len c]) (.ptr id off) := by
      intro hc
      have ha := hS.addr hc; subst ha
      refine ⟨_, ?_, .ptr hS.loc⟩
      have e : Builtin.unsafeSliceData_ ts u #[.slice (some ⟨L.b, L.off + off, none⟩) len c] = if c ≠ 0 then pure (.pointer (some ⟨L.b, L.off + off, none⟩)) else
          (do if (← viewAt L.b).isSome then pure (.pointer (some ⟨L.b, L.off + off, none⟩)) else pure (.pointer (some ⟨← newObj (.view ⟨L.b, L.off + off, none⟩ (← elemOf u)), 0, none⟩))) := rfl
      rw [e, if_pos hc]; rfl
    split at h
    · rename_i h0
      simp only [Option.some.injEq] at h; subst h
      exact fin (by have := hS.le; have := nat_beq_false h0; omega)
    · split at h
      · simp only [Option.some.injEq] at h; subst h
        exact fin (by have := hS.cap; simp only at this; omega)
      · cases h
  · cases h
theorem bMin_sound {mx : Bool} {x y v : AV} (h : bMin mx x y = some v) {cx cy : Value} (hx : VRel φ ν x cx) (hy : VRel φ ν y cy) {ts : Array TypeId} {u : Nat} :
    Gives E.P φ ν w (if mx then Builtin.max_ ts u #[cx, cy] else Builtin.min_ ts u #[cx, cy]) v := by
  unfold bMin at h
  split at h
  · rename_i a b
    cases hx.int_inv; cases hy.int_inv
    rw [ltI_eq] at h
    have e1 : (Builtin.max_ ts u #[.int .i64 a, .int .i64 b]).run E.P w = .ok (.int .i64 (if b > a then b else a)) w := by
      simp [Builtin.max_, Builtin.max2]
    have e2 : (Builtin.min_ ts u #[.int .i64 a, .int .i64 b]).run E.P w = .ok (.int .i64 (if b < a then b else a)) w := by
      simp [Builtin.min_, Builtin.min2]
    cases mx <;> by_cases q : a < b <;> simp only [q, decide_true, decide_false, Option.some.injEq] at h <;> subst h
    · refine ⟨_, by simpa using e2, ?_⟩
      rw [if_neg (by omega)]; exact .int _ _
    · refine ⟨_, by simpa using e2, ?_⟩
      by_cases q' : b < a
      · rw [if_pos q']; exact .int _ _
      · have : a = b := by omega
        subst this; rw [if_neg q']; exact .int _ _
    · refine ⟨_, by simpa using e1, ?_⟩
      rw [if_pos q]; exact .int _ _
    · refine ⟨_, by simpa using e1, ?_⟩
      rw [if_neg q]; exact .int _ _
  · cases h
end
end Go.Ev
namespace Go.Ev
open Go Go.RowKit
section
variable {E : Env} {φ : Phi} {ν : Nat → Int} {w : World}
theorem foldl_set : ∀ (vs : List Value) (off k : Nat) (cells : Array Value), off + k + vs.length ≤ cells.size →
    ((vs.zipIdx k).foldl (fun cs p => cs.setIfInBounds (off + p.2) p.1) cells).toList = cells.toList.take (off + k) ++ vs ++ cells.toList.drop (off + k + vs.length) := by
  intro vs
  induction vs with
  | nil => intro off k cells _; simp
  | cons v vs ih =>
    intro off k cells h
    simp only [List.zipIdx_cons, List.foldl_cons]
    simp only [List.length_cons] at h
    rw [ih off (k + 1) _ (by simp; omega)]
    simp only [Array.toList_setIfInBounds, List.length_cons]
    have hlt : off + k < cells.toList.length := by simp; omega
    rw [show off + (k + 1) = off + k + 1 from by omega, List.drop_set_of_lt (by omega), List.take_set, List.take_succ_eq_append_getElem hlt]
    rw [List.set_append_right _ _ (by simp; omega)]
    simp only [List.length_take, Array.length_toList]
    rw [show off + k - min (off + k) cells.size = 0 from by omega]
    simp
    congr 1
    omega
inductive PRel (φ : Phi) (ν : Nat → Int) : List (Nat × AV) → List (Nat × Value) → Prop
  | nil : PRel φ ν [] []
  | cons {i : Nat} {a : AV} {v : Value} {as : List (Nat × AV)} {vs : List (Nat × Value)} : VRel φ ν a v → PRel φ ν as vs → PRel φ ν ((i, a) :: as) ((i, v) :: vs)
theorem setCells_eq (cs : List AV) (off : Nat) (vs : List AV) : setCells cs off vs = cs.take off ++ (vs ++ cs.drop (off + vs.length)) := by
  unfold setCells
  rw [appL_eq, appL_eq, takeL_eq, dropL_eq, lenL_eq]
  rfl
theorem LRel.setCells {cs : List AV} {ccs : List Value} (h : LRel φ ν cs ccs) {vs : List AV} {cvs : List Value} (hv : LRel φ ν vs cvs) (off : Nat) :
    LRel φ ν (Go.Ev.setCells cs off vs) (ccs.take off ++ (cvs ++ ccs.drop (off + cvs.length))) := by
  rw [setCells_eq, hv.1]
  exact (h.take off).append (hv.append (h.drop _))
theorem fillA_sound {place : Nat → Option (Nat × Nat)} : ∀ {parts : List (Nat × AV)} {cparts : List (Nat × Value)} (_ : PRel φ ν parts cparts) {cells cs' : List AV} {ccells : List Value},
    LRel φ ν cells ccells → fillA place cells parts = some cs' → ∃ ccs', Instr.fill place ccells.toArray cparts = some ccs'.toArray ∧ LRel φ ν cs' ccs' := by
  intro parts cparts hp
  induction hp with
  | nil => intro cells cs' ccells hl h; simp only [fillA, Option.some.injEq] at h; subst h; exact ⟨ccells, rfl, hl⟩
  | @cons i a v as vs hv _ ih =>
    intro cells cs' ccells hl h
    unfold fillA at h
    unfold Instr.fill
    split at h
    · cases h
    · rename_i off size hpl
      split at h
      · rename_i hk hs hle
        have hvc := hv.cells hk
        have hs' := nat_beq hs
        have hle' := nat_ble hle
        rw [lenL_eq] at hs' hle'
        have l1 : v.cells.size = size := by rw [← hs', hvc.1]; simp
        have l2 : off + size ≤ ccells.length := by rw [← hl.1]; exact hle'
        rw [hpl]
        simp only
        rw [if_neg (by simp [l1]; omega)]
        have e : (v.cells.zipIdx.foldl (fun cs (p : Value × Nat) => cs.setIfInBounds (off + p.2) p.1) ccells.toArray) = (ccells.take off ++ (v.cells.toList ++ ccells.drop (off + v.cells.toList.length))).toArray := by
          apply Array.ext'
          rw [← Array.foldl_toList]
          have := foldl_set v.cells.toList off 0 ccells.toArray (by simp; omega)
          simpa using this
        have e' : (v.cells.zipIdx.foldl (fun cs x => match x with | (c, j) => cs.setIfInBounds (off + j) c) ccells.toArray) = (ccells.take off ++ (v.cells.toList ++ ccells.drop (off + v.cells.toList.length))).toArray := e
        rw [e']
        exact ih (hl.setCells hvc off) h
      · cases h
theorem evParts_sound {n : Nat} {T : Tr AV} {a : Act} (hG : GRel E φ) (hT : TRel φ ν n T a.tmps) : ∀ ps : List (Nat × Operand), PRel φ ν (evParts E T ps) (ps.map fun p => (p.1, a.eval p.2)) := by
  intro ps
  induction ps with
  | nil => exact .nil
  | cons p ps ih => obtain ⟨i, x⟩ := p; exact .cons (aev_sound hG hT x) ih
theorem run_placesA (P : Program) (w : World) : ∀ (fs : List Field), sizesOk P fs = true → (fs.mapM fun f => (do pure (f.offset, ← sizeOf f.type) : Sem (Nat × Nat))).run P w = .ok (fs.map fun f => (f.offset, P.cellsOf f.type)) w := by
  intro fs
  induction fs with
  | nil => intro _; rfl
  | cons f fs ih =>
    intro h
    unfold sizesOk at h
    split at h
    · rename_i i hi
      have := ih h
      simp only [List.mapM_cons, Sem.run_bind, run_size hi, Result.andThen_ok, Sem.run_pure, this, List.map_cons]
      simp [Program.cellsOf, hi]
    · cases h
theorem structPlaces_eq (P : Program) (fields : Array Field) (h : sizesOk P fields.toList = true) (i : Nat) :
    structPlaces P fields i = (fields.map fun f => (f.offset, P.cellsOf f.type))[i]? := by
  unfold structPlaces
  simp only [Array.getElem?_map]
  cases hf : fields[i]? with
  | none => rfl
  | some f =>
    have hm : f ∈ fields.toList := by
      have := Array.mem_of_getElem? hf
      exact Array.mem_toList_iff.2 this
    have : ∀ (l : List Field), sizesOk P l = true → f ∈ l → ∃ i, P.info? f.type = some i := by
      intro l
      induction l with
      | nil => intro _ hm; cases hm
      | cons g l ih =>
        intro hs hm
        unfold sizesOk at hs
        split at hs
        · rename_i i hi
          cases hm with
          | head => exact ⟨i, hi⟩
          | tail _ hm => exact ih hs hm
        · cases hs
    obtain ⟨i, hi⟩ := this _ h hm
    simp [hi, Program.cellsOf]
theorem absLeaf_known {v : Value} {a : AV} (h : absLeaf v = some a) : known a = true := by
  unfold absLeaf at h
  split at h <;> first
    | (simp only [Option.some.injEq] at h; subst h; rfl)
    | (split at h
       · simp only [Option.some.injEq] at h; subst h; rfl
       · cases h)
    | cases h
theorem absV_known {v : Value} {a : AV} (h : absV v = some a) : known a = true := by
  unfold absV at h
  split at h
  · rename_i cs
    cases h' : absAll cs.toList <;> rw [h'] at h <;> simp at h
    subst h; rfl
  · rename_i cs
    cases h' : absAll cs.toList <;> rw [h'] at h <;> simp at h
    subst h; rfl
  · rename_i t v
    cases h' : absLeaf v <;> rw [h'] at h <;> simp at h
    subst h; rfl
  · exact absLeaf_known h
theorem zeroA_known {P : Program} {t : Nat} {a : AV} (h : zeroA P t = some a) : known a = true := by
  unfold zeroA at h
  split at h
  · split at h
    · exact absV_known h
    · cases h
  · cases h
theorem opBuild_sound {t : Nat} {parts : List (Nat × AV)} {v : AV} (h : opBuild E t parts = some v) {cparts : Array (Nat × Value)} (hp : PRel φ ν parts cparts.toList) : Gives E.P φ ν w (Instr.build t cparts) v := by
  unfold opBuild at h
  split at h
  · rename_i fields z ht hz
    obtain ⟨i, zv, hi, hzv, hv⟩ := zeroA_sound (φ := φ) (ν := ν) hz
    split at h
    · rename_i cs hso hf
      simp only [Option.some.injEq] at h; subst h
      have hk : known z = true := zeroA_known hz
      have hzc := hv.cells hk
      obtain ⟨ccs, hfc, hcs⟩ := fillA_sound hp hzc hf
      have e1 : (structPlaces E.P fields) = fun x => (fields.map fun f => (f.offset, E.P.cellsOf f.type))[x]? := funext (structPlaces_eq E.P fields hso)
      rw [e1] at hfc
      refine ⟨.agg ccs.toArray, ?_, VRel.agg' hcs⟩
      have e2 := run_placesA E.P w fields.toList hso
      simp only [Instr.build, Sem.run_bind, run_zero hi hzv, Result.andThen_ok, run_underlying ht, Array.mapM_eq_mapM_toList, Sem.run_map, e2]
      have e3 : (List.map (fun f => (f.offset, E.P.cellsOf f.type)) fields.toList).toArray = fields.map fun f => (f.offset, E.P.cellsOf f.type) := by apply Array.ext'; simp
      rw [e3]
      have e4 : zv.cells.toList.toArray = zv.cells := rfl
      rw [e4] at hfc
      simp only [hfc, Sem.run_pure]
    · cases h
  · rename_i n elem z ht hz
    obtain ⟨i, zv, hi, hzv, hv⟩ := zeroA_sound (φ := φ) (ν := ν) hz
    split at h
    · rename_i inf hinf
      split at h
      · rename_i cs hf
        simp only [Option.some.injEq] at h; subst h
        have hk : known z = true := zeroA_known hz
        have hzc := hv.cells hk
        obtain ⟨ccs, hfc, hcs⟩ := fillA_sound hp hzc hf
        refine ⟨.agg ccs.toArray, ?_, VRel.agg' hcs⟩
        have e4 : zv.cells.toList.toArray = zv.cells := rfl
        rw [e4] at hfc
        simp only [Nat.mul_eq] at hfc
        simp only [Instr.build, Sem.run_bind, run_zero hi hzv, Result.andThen_ok, run_underlying ht, run_size hinf, hfc, Sem.run_pure]
      · cases h
    · cases h
  · cases h
end
end Go.Ev
namespace Go.Ev
open Go Go.RowKit
section
variable {E : Env} {φ : Phi} {ν : Nat → Int} {w : World}
theorem Gives.value {P : Program} {s : Sem Value} {v : AV} (h : Gives P φ ν w s v) : ∃ x, (do pure (.value (← s)) : Sem Next).run P w = .ok (.value x) w ∧ VRel φ ν v x := by
  obtain ⟨x, h1, h2⟩ := h
  exact ⟨x, by simp [h1], h2⟩
theorem evO_sound {n : Nat} {T : Tr AV} {a : Act} (hG : GRel E φ) (hT : TRel φ ν n T a.tmps) (x : Option Operand) : OVRel φ ν (evO E T x) (x.map a.eval) := by
  cases x with
  | none => exact .none
  | some x => exact .some (aev_sound hG hT x)
theorem opNilCheck_sound {x v : AV} (h : opNilCheck x = some v) {cx : Value} (hx : VRel φ ν x cx) {o : Oper} {y : Operand} (ho : o.op = .nilCheck y) {ρ : Operand → Value} (hy : ρ y = cx) :
    ∃ z, (execOp ρ o).run E.P w = .ok (.value z) w ∧ VRel φ ν v z := by
  unfold opNilCheck at h
  have e : execOp ρ o = (match ρ y with
    | .pointer none | .nilIface | .nilFunc => runtimePanic .nilDeref
    | .func (.method name) first captured =>
      match (first[0]? : Option Value) with
      | some .nilIface => runtimePanic .nilDeref
      | some (.iface t w) => do
        if (← nilAhead ((← program).types.size + Made.depth) t w name) != some false then
          unsupported (.noEntry "op/nilCheck.the method's receiver behind this interface value is a nil pointer, or cannot be seen to be none, and the arguments act or may panic (ledger 612)")
        pure (.value (.func (.method name) first captured))
      | _ => pure (.value (.func (.method name) first captured))
    | x => pure (.value x)) := by
    obtain ⟨dst, op, type, pos, after, guard⟩ := o
    simp only at ho; subst ho
    rfl
  rw [e, hy]
  split at h <;> first
    | (obtain ⟨L, hL, rfl⟩ := hx.ptr_inv
       simp only [Option.some.injEq] at h; subst h
       exact ⟨_, rfl, .ptr hL⟩)
    | (obtain ⟨g, cs, ds, hf, rfl, _⟩ := hx.fn_inv
       simp only [Option.some.injEq] at h; subst h
       exact ⟨_, rfl, hx⟩)
    | (obtain ⟨L, hL, rfl⟩ := hx.yield_inv
       simp only [Option.some.injEq] at h; subst h
       exact ⟨_, rfl, hx⟩)
    | (obtain ⟨z, rfl, hz⟩ := hx.iface_inv
       simp only [Option.some.injEq] at h; subst h
       exact ⟨_, rfl, hx⟩)
    | cases h
theorem pureB_sound {b : Builtin} {ts : Array TypeId} {args : List AV} {v : AV} (h : pureB E b ts args = some v) {cargs : List Value} (hl : LRel φ ν args cargs) (u : Nat) (cs : Array Bool) :
    ∃ x, (builtin b ts u cs cargs.toArray).run E.P w = .ok (.value x) w ∧ VRel φ ν v x := by
  unfold pureB at h
  split at h
  · rename_i ts' t r x ht
    obtain ⟨cx, cr, rfl, hx, hr⟩ := hl.cons_inv
    have := hr.nil_inv; subst this
    have ht' : ts[0]? = some t := by rw [← Array.getElem?_toList, ht]; rfl
    exact (bCap_sound (w := w) h hx (u := u) ht').value
  · obtain ⟨cx, cr, rfl, hx, hr⟩ := hl.cons_inv
    obtain ⟨cy, cr', rfl, hy, hr'⟩ := hr.cons_inv
    have := hr'.nil_inv; subst this
    exact (bMin_sound (E := E) (w := w) (ts := ts) (u := u) h hx hy).value
  · obtain ⟨cx, cr, rfl, hx, hr⟩ := hl.cons_inv
    obtain ⟨cy, cr', rfl, hy, hr'⟩ := hr.cons_inv
    have := hr'.nil_inv; subst this
    exact (bMin_sound (E := E) (w := w) (ts := ts) (u := u) h hx hy).value
  · obtain ⟨cx, cr, rfl, hx, hr⟩ := hl.cons_inv
    have := hr.nil_inv; subst this
    exact (bUnsafeSliceData_sound (E := E) (w := w) (ts := ts) (u := u) h hx).value
  · cases h
theorem pop_sound (hν : Bounded E ν) {n : Nat} {T : Tr AV} {a : Act} (hG : GRel E φ) (hT : TRel φ ν n T a.tmps) {o : Oper} {v : AV} (h : pop E T o.op = some v) :
    ∃ x, (execOp a.eval o).run E.P w = .ok (.value x) w ∧ VRel φ ν v x := by
  have ev := fun x => aev_sound (a := a) hG hT x
  have eo := fun x => evO_sound (a := a) hG hT x
  have el := fun l => evAll_sound (a := a) hG hT l
  obtain ⟨dst, op, type, pos, after, guard⟩ := o
  simp only at h
  unfold pop at h
  split at h
  · simp only [Option.some.injEq] at h; subst h; exact ⟨_, rfl, ev _⟩
  · simp only [Option.some.injEq] at h; subst h; exact ⟨_, rfl, ev _⟩
  · rename_i c x y
    have hc := ev c
    unfold opPick at h
    split at h
    · rename_i hcv
      rw [hcv] at hc
      simp only [Option.some.injEq] at h; subst h
      exact ⟨_, by simp [execOp, asBool, hc.bool_inv], ev _⟩
    · rename_i hcv
      rw [hcv] at hc
      simp only [Option.some.injEq] at h; subst h
      exact ⟨_, by simp [execOp, asBool, hc.bool_inv], ev _⟩
    · cases h
  · rename_i t ps
    have hp := evParts_sound (a := a) hG hT ps.toList
    exact (opBuild_sound (w := w) h (cparts := ps.map fun (i, x) => (i, a.eval x)) (by simpa using hp)).value
  · exact opNilCheck_sound h (ev _) rfl rfl
  · exact (opBin_sound (w := w) hν h (ev _) (ev _)).value
  · exact (opUn_sound (E := E) (w := w) h (ev _)).value
  · exact (convP_sound (w := w) h (ev _)).value
  · exact (opMakeIface_sound (w := w) h (ev _)).value
  · rename_i f first cap
    simp only [Option.some.injEq] at h; subst h
    refine ⟨.func (.func f) (first.map a.eval) (cap.map a.eval), rfl, ?_⟩
    have h1 := el first.toList
    have h2 := el cap.toList
    have e1 : first.map a.eval = (first.toList.map a.eval).toArray := by apply Array.ext'; simp
    have e2 : cap.map a.eval = (cap.toList.map a.eval).toArray := by apply Array.ext'; simp
    rw [e1, e2]
    exact .fn h1.1 h1.2 h2.1 h2.2
  · exact (opSlice_sound (w := w) h (ev _) (eo _) (eo _) (eo _)).value
  · exact (opFieldAddr_sound (w := w) h (ev _)).value
  · exact (opField_sound (w := w) h (ev _)).value
  · exact (opIndexAddr_sound (w := w) h (ev _) (ev _)).value
  · exact (opIndex_sound (w := w) h (ev _) (ev _)).value
  · exact (opTypeAssert_sound (w := w) h (ev _)).value
  · exact (opExtract_sound (E := E) (w := w) h (ev _)).value
  · rename_i c
    split at h
    · rename_i b hb
      have hl := el c.args.toList
      obtain ⟨x, h1, h2⟩ := pureB_sound (w := w) h hl type (c.args.map fun | .const _ => true | _ => false)
      refine ⟨x, ?_, h2⟩
      have e1 : (c.args.toList.map a.eval).toArray = c.args.map a.eval := by apply Array.ext'; simp
      rw [e1] at h1
      simp only [execOp, resolve, hb, Sem.run_bind, Sem.run_pure, Result.andThen_ok, invoke]
      exact h1
    · cases h
  · cases h
end
end Go.Ev
