/-
  Operations that lay a block are sound.
-/
import Derived.Test.YtebegohhjdllpaaGreatDoorEvD
set_option linter.unusedVariables false
set_option linter.unusedSimpArgs false
namespace Go.Ev
open Go Go.RowKit
section
variable {E : Env} {φ φ' : Phi} {ν : Nat → Int} {w w' : World} {B : Nat} {m : AMem}
/-- The world with one more block. -/
structure Pushed (w w' : World) (o : Obj) : Prop where
  heap : w'.heap = w.heap.push o
  os : w'.os = w.os
  tape : w'.tape = w.tape
  output : w'.output = w.output
theorem Pushed.alloc (w : World) (o : Obj) : Pushed w (w.alloc o) o := ⟨rfl, rfl, rfl, rfl⟩
theorem Pushed.below {o : Obj} (h : Pushed w w' o) {B : Nat} (hB : B ≤ w.heap.size) : Below B w w' :=
  ⟨h.os, h.tape, h.output, by rw [h.heap]; simp, fun k hk => by rw [h.heap, Array.getElem?_push, if_neg (by omega)]⟩
theorem MRel.heap (h : MRel E φ ν B m w) (he : w'.heap = w.heap) : MRel E φ ν B m w' :=
  ⟨h.toGRel, fun id b L a c => by rw [he]; exact h.blk id b L a c, h.dom, fun id L a => by rw [he]; exact h.lt id L a, h.inj, h.own, by rw [he]; exact h.base, h.top, h.lim, h.vals, h.bas, fun k hk => by rw [he]; exact h.old k hk⟩
/-- What a run that lays a block comes to. -/
def LayOk (φ : Phi) (ν : Nat → Int) (w : World) (b : ABlk) (f : Nat → AV) (r : Result Value) : Prop :=
  ∃ w' o L v, r = .ok v w' ∧ Pushed w w' o ∧ L.b = w.heap.size ∧ BObj φ ν b L o ∧ ∀ (i : Nat) (φ' : Phi), φ' i = some L → VRel φ' ν (f i) v
theorem fz_new (L : Loc) : FzRel L 0 0 (0, 0) := ⟨fun i _ _ h => by simp at h, fun _ => .inl rfl⟩
theorem LRel.crel {cs : List AV} {ccs : List Value} (h : LRel φ ν cs ccs) : CRel φ ν cs 0 ccs.toArray := by
  intro i a ha
  obtain ⟨c, hc, hv⟩ := h.get ha
  exact ⟨c, by simpa using hc, hv⟩
theorem bobj_new {cs : List AV} {ccs : List Value} (h : LRel φ ν cs ccs) (b ty : Nat) : BObj φ ν (mkCells cs ty) ⟨b, 0, ccs.length⟩ (.cells ccs.toArray ty) :=
  .cells (by simp [h.1]) (by simp) (fun _ => ⟨rfl, by simp [h.1], by simp [h.1]⟩) h.crel (fz_new _)
theorem run_newVar (P : Program) (w : World) (t : TypeId) (v : Value) : (newVar t v).run P w = .ok ⟨w.heap.size, 0, none⟩ (w.alloc (.cells v.cells t)) := rfl
theorem newVar_ok {t : Nat} {a : AV} {v : Value} (h : VRel φ ν a v) (hk : known a = true) (P : Program) :
    LayOk φ ν w (mkCells (cellsA a) t) (fun i => .ptr i 0) ((do pure (.pointer (some (← newVar t v))) : Sem Value).run P w) := by
  have hc := h.cells hk
  refine ⟨w.alloc (.cells v.cells t), .cells v.cells t, ⟨w.heap.size, 0, v.cells.toList.length⟩, .pointer (some ⟨w.heap.size, 0, none⟩), by simp [run_newVar], Pushed.alloc _ _, rfl, ?_, fun i φ' hi => ?_⟩
  · have := bobj_new hc w.heap.size t
    simpa using this
  · exact VRel.ptr hi
theorem opAlloc_sound {t : Nat} {b : ABlk} {f : Nat → AV} (h : opAlloc E t = some (b, f)) : LayOk φ ν w b f ((Instr.alloc t true (.tuple #[])).run E.P w) := by
  unfold opAlloc at h
  split at h
  · rename_i z hz
    simp only [Option.some.injEq, Prod.mk.injEq] at h
    obtain ⟨rfl, rfl⟩ := h
    obtain ⟨i, zv, hi, hzv, hv⟩ := zeroA_sound (φ := φ) (ν := ν) hz
    have := newVar_ok (w := w) (t := t) hv (zeroA_known hz) E.P
    simpa [Instr.alloc, run_zero hi hzv] using this
  · cases h
theorem opBox_sound {t : Nat} {x : AV} {b : ABlk} {f : Nat → AV} (h : opBox t x = some (b, f)) {cx : Value} (hx : VRel φ ν x cx) (P : Program) : LayOk φ ν w b f ((Instr.box t cx).run P w) := by
  unfold opBox at h
  split at h
  · rename_i hk
    simp only [Option.some.injEq, Prod.mk.injEq] at h
    obtain ⟨rfl, rfl⟩ := h
    exact newVar_ok hx hk P
  · cases h
theorem repA_get (z : List AV) : ∀ (n i : Nat), (repA z n)[i]? = if i < n * z.length then z[i % z.length]? else none := by
  intro n
  induction n with
  | zero => intro i; simp [repA]
  | succ n ih =>
    intro i
    simp only [repA, appL_eq]
    by_cases hi : i < z.length
    · rw [List.getElem?_append_left hi, if_pos (by rw [Nat.succ_mul]; omega), Nat.mod_eq_of_lt hi]
    · rw [List.getElem?_append_right (by omega), ih]
      have e : (i - z.length) % z.length = i % z.length := by
        conv => rhs; rw [show i = (i - z.length) + z.length from by omega]
        rw [Nat.add_mod_right]
      rw [e]
      by_cases h2 : i - z.length < n * z.length
      · rw [if_pos h2, if_pos (by rw [Nat.succ_mul]; omega)]
      · rw [if_neg h2, if_neg (by rw [Nat.succ_mul]; omega)]
theorem repA_len (z : List AV) (n : Nat) : (repA z n).length = n * z.length := by
  induction n with
  | zero => simp [repA]
  | succ n ih => simp [repA, appL_eq, ih, Nat.succ_mul]; omega
theorem repA_sound {z : List AV} {zc : Array Value} (h : LRel φ ν z zc.toList) (n : Nat) (h0 : z.length ≠ 0) :
    LRel φ ν (repA z n) ((Array.range (n * z.length)).map (fun i => zc[i % zc.size]!)).toList := by
  have hl : z.length = zc.size := by rw [h.1]; simp
  refine ⟨by rw [repA_len]; simp, fun i a c ha hc => ?_⟩
  rw [repA_get] at ha
  split at ha
  · rename_i hi
    obtain ⟨c', hc', hv⟩ := h.get ha
    have : c = c' := by
      simp only [Array.getElem?_toList, Array.getElem?_map, Array.getElem?_range] at hc
      rw [if_pos hi] at hc
      simp only [Option.map_some, Option.some.injEq] at hc
      rw [Array.getElem?_toList, hl] at hc'
      rw [← hc]
      have hm : i % zc.size < zc.size := Nat.mod_lt _ (by omega)
      rw [getElem!_pos zc _ hm]
      rw [Array.getElem?_eq_getElem hm] at hc'
      simpa using hc'
    rw [this]; exact hv
  · cases ha
theorem run_newRow (P : Program) (w : World) (t : TypeId) (c : Array Value) : (newRow t c).run P w = .ok ⟨w.heap.size, 0, none⟩ (w.alloc (.cells c t)) := rfl
theorem opBuildSlice_sound {t len : Nat} {parts : List (Nat × AV)} {b : ABlk} {f : Nat → AV} (h : opBuildSlice E t len parts = some (b, f)) {cparts : Array (Nat × Value)} (hp : PRel φ ν parts cparts.toList) :
    LayOk φ ν w b f ((Instr.buildSlice t len cparts).run E.P w) := by
  unfold opBuildSlice at h
  split at h
  · rename_i elem ht
    split at h
    · rename_i inf z hinf hz
      obtain ⟨i, zv, hi, hzv, hv⟩ := zeroA_sound (φ := φ) (ν := ν) hz
      rw [hinf] at hi; simp only [Option.some.injEq] at hi; subst hi
      split at h
      · rename_i h1 h2 h3
        split at h
        · rename_i cs hf
          simp only [Option.some.injEq, Prod.mk.injEq] at h
          obtain ⟨rfl, rfl⟩ := h
          have hzc := hv.cells (zeroA_known hz)
          have l1 := nat_beq h1
          rw [lenL_eq] at l1
          have l2 := nat_beq_false h2
          have l3 := nat_ble h3
          have hrep := repA_sound hzc len (by rw [l1]; exact l2)
          rw [l1] at hrep
          obtain ⟨ccs, hfc, hcs⟩ := fillA_sound hp hrep hf
          simp only [Nat.mul_eq] at hfc l3
          refine ⟨w.alloc (.cells ccs.toArray elem), _, ⟨w.heap.size, 0, ccs.length⟩, .slice (some ⟨w.heap.size, 0, none⟩) len len, ?_, Pushed.alloc _ _, rfl, bobj_new hcs _ _, fun i φ' hi => .sliceE hi (fun _ => by simp) (Nat.le_refl _)⟩
          simp only [Instr.buildSlice, Sem.run_bind, run_underlying ht, Result.andThen_ok, run_size hinf, Sem.run_ite]
          rw [if_neg (by omega)]
          simp only [Sem.run_pure, Result.andThen_ok]
          by_cases h0 : len * inf.size = 0
          · have : len = 0 := by rcases Nat.mul_eq_zero.1 h0 with q | q; exact q; exact absurd q l2
            subst this
            have e0 : ∀ g : Nat → Value, ((Array.range (0 * inf.size)).map g) = #[] := by intro g; simp
            rw [e0] at hfc
            simp only [if_pos h0, e0]
            have e1 : (#[] : Array Value).toList.toArray = #[] := rfl
            rw [e1] at hfc
            simp [hfc, run_newRow]
          · rw [if_neg h0]
            simp only [run_zero hinf hzv, Result.andThen_ok]
            have e : ((Array.range (len * inf.size)).map (fun i => zv.cells[i % zv.cells.size]!)).toList.toArray = (Array.range (len * inf.size)).map (fun i => zv.cells[i % zv.cells.size]!) := rfl
            rw [e] at hfc
            simp [hfc, run_newRow]
        · cases h
      · cases h
    · cases h
  · cases h
end
end Go.Ev
namespace Go.Ev
open Go Go.RowKit
section
variable {E : Env} {φ φ' : Phi} {ν : Nat → Int} {w w' : World} {B : Nat} {m : AMem}
theorem opMakeSlice_sound {t : Nat} {l c : AV} {b : ABlk} {f : Nat → AV} (h : opMakeSlice E t l c = some (b, f)) {cl cc : Value} (hl : VRel φ ν l cl) (hc : VRel φ ν c cc) : LayOk φ ν w b f ((Instr.makeSlice t cl cc).run E.P w) := by
  unfold opMakeSlice at h
  split at h
  · rename_i elem k n k' q ht
    cases hl.int_inv; cases hc.int_inv
    split at h
    · rename_i inf z hinf hz
      obtain ⟨i, zv, hi, hzv, hv⟩ := zeroA_sound (φ := φ) (ν := ν) hz
      rw [hinf] at hi; simp only [Option.some.injEq] at hi; subst hi
      split at h
      · rename_i h1 h2 h3 h4 h5
        simp only [Option.some.injEq, Prod.mk.injEq] at h
        obtain ⟨rfl, rfl⟩ := h
        have l1 := nat_ble h1
        have l2 := nat_ble h2
        have l3 := nat_ble h3
        have l4 := nat_beq h4
        rw [lenL_eq] at l4
        have l5 := nat_beq_false h5
        simp only [Nat.mul_eq] at l3
        have hzc := hv.cells (zeroA_known hz)
        have hrep := repA_sound hzc q (by rw [l4]; exact l5)
        rw [l4] at hrep
        refine ⟨w.alloc (.cells ((Array.range (q * inf.size)).map (fun i => zv.cells[i % zv.cells.size]!)) elem), _, ⟨w.heap.size, 0, q * inf.size⟩, .slice (some ⟨w.heap.size, 0, none⟩) n q, ?_, Pushed.alloc _ _, rfl, ?_, fun i φ' hi => .sliceE hi (fun _ => by simp) l1⟩
        · have w1 : IntKind.i64.wrap (Int.ofNat n) = (n : Int) := inR_wrap (k := .i64) (n := .ofNat n) (by show Nat.blt _ 9223372036854775808 = true; rw [Nat.blt_eq]; omega)
          have w2 : IntKind.i64.wrap (Int.ofNat q) = (q : Int) := inR_wrap (k := .i64) (n := .ofNat q) (by show Nat.blt _ 9223372036854775808 = true; rw [Nat.blt_eq]; omega)
          have c1 : ¬ ((decide ((q : Int) < 0) || decide ((inf.bytes : Int) * (q : Int) > 2 ^ 48)) || decide ((n : Int) < 0) || decide ((n : Int) > (q : Int))) = true := by
            intro hh
            simp only [Bool.or_eq_true, decide_eq_true_eq] at hh
            have h6 : ((inf.bytes * q : Nat) : Int) ≤ ((281474976710656 : Nat) : Int) := Int.ofNat_le.2 l3
            have h7 : ((inf.bytes * q : Nat) : Int) = (inf.bytes : Int) * (q : Int) := by exact Int.natCast_mul _ _
            have h8 : (2 : Int) ^ 48 = 281474976710656 := by decide
            rw [h8, ← h7] at hh
            generalize inf.bytes * q = p at hh h6
            rcases hh with ((hh | hh) | hh) | hh <;> omega
          simp only [Instr.makeSlice, Sem.run_bind, run_underlying ht, Result.andThen_ok, asInt, asIntOf, Sem.run_pure, run_info hinf, w1, w2, Sem.run_ite]
          rw [if_neg c1]
          simp only [Result.andThen_ok, run_askRoom, run_size hinf, Int.toNat_natCast]
          by_cases h0 : q * inf.size = 0
          · have e0 : ∀ g : Nat → Value, (Array.range (q * inf.size)).map g = #[] := by intro g; rw [h0]; simp
            simp only [if_pos h0, Result.andThen_ok, e0, run_newRow]
          · rw [if_neg h0]
            simp only [run_zero hinf hzv, Result.andThen_ok, run_newRow]
        · have this := bobj_new hrep w.heap.size elem
          rw [show ((Array.range (q * inf.size)).map (fun i => zv.cells[i % zv.cells.size]!)).toList.length = q * inf.size from by simp] at this
          exact this
      · cases h
    · cases h
  · cases h
theorem byteVals_sound (s : ByteArray) : LRel φ ν (byteVals (bytesOf s)) (s.data.map fun b => Value.int .u8 b.toNat).toList := by
  simp only [Array.toList_map, bytesOf]
  generalize s.data.toList = l
  induction l with
  | nil => exact .nil
  | cons b l ih => exact .cons (.int _ _) ih
theorem freeze_alloc (w : World) (c : Array Value) (e : TypeId) (n : Nat) : ((w.alloc (.cells c e)).freeze ⟨w.heap.size, n, none⟩ 1).heap = w.heap.push (.cells c e (n, n + 1)) := by
  apply Array.ext_getElem?
  intro i
  simp only [World.freeze, World.alloc]
  rw [if_neg (by omega)]
  simp only [Array.getElem?_modify, Array.getElem?_push]
  by_cases h : i = w.heap.size
  · subst h; simp
  · simp [h]
    intro hh
    exact absurd hh.symm h
theorem convE_sound {s d : Nat} {x : AV} {b : ABlk} {f : Nat → AV} (h : convE E s d x = some (b, f)) {cx : Value} (hx : VRel φ ν x cx) : LayOk φ ν w b f ((convert s d cx).run E.P w) := by
  unfold convE at h
  split at h
  · rename_i us e l hs hd
    obtain ⟨bs, rfl, hbs⟩ := hx.str_inv
    subst hbs
    split at h
    · rename_i he
      simp only [Option.some.injEq, Prod.mk.injEq] at h
      obtain ⟨rfl, rfl⟩ := h
      have hcap : bs.size ≤ (Question.appendCap bs.size 0 e).cut (w.tape w.drawn (.appendCap bs.size 0 e)) := by simp [Question.cut]
      generalize hc : (Question.appendCap bs.size 0 e).cut (w.tape w.drawn (.appendCap bs.size 0 e)) = cap at hcap
      let cells := (bs.data.map fun b => Value.int .u8 b.toNat) ++ Array.replicate (cap - bs.size) (.int .u8 0)
      have hsize : cells.size = cap := by simp [cells]; show bs.size + _ = _; omega
      refine ⟨(World.alloc { w with drawn := w.drawn + 1 } (.cells cells e)).freeze ⟨w.heap.size, cap, none⟩ 1, .cells cells e (cap, cap + 1), ⟨w.heap.size, 0, cap⟩, .slice (some ⟨w.heap.size, 0, none⟩) bs.size cap, ?_, ?_, rfl, ?_, fun i φ' hi => ?_⟩
      · simp only [convert, Sem.run_bind, run_underlying hs, run_underlying hd, Result.andThen_ok, run_underlying he, Conv.stringToBytes, run_choose]
        have hf : (Question.appendCap bs.size 0 e).forced = false := rfl
        simp only [hf, Bool.false_eq_true, if_false, Result.andThen_ok, hc, run_newRow, markStringish, Sem.run_bind, run_shape, Sem.run_pure]
        have hsh : (World.alloc { w with drawn := w.drawn + 1 } (.cells cells e)).shape? w.heap.size = some (e, cells.size) := by simp [World.shape?, World.alloc]
        have hsh' : (World.alloc { w with drawn := w.drawn + 1 } (.cells ((bs.data.map fun b => Value.int .u8 b.toNat) ++ Array.replicate (cap - bs.size) (.int .u8 0)) e)).shape? w.heap.size = some (e, cells.size) := hsh
        simp only [hsh', run_freeze, Result.andThen_ok, hsize]
        rfl
      · exact ⟨freeze_alloc { w with drawn := w.drawn + 1 } cells e cap, rfl, rfl, rfl⟩
      · have hb := byteVals_sound (φ := φ) (ν := ν) bs
        refine .cells (by rw [hb.1]; simp; exact hcap) (by simp [hsize]) (fun e => by cases e) ?_ ?_
        · intro i a ha
          obtain ⟨c, hc', hv⟩ := hb.get ha
          refine ⟨c, ?_, hv⟩
          simp only [cells, Nat.zero_add]
          rw [Array.getElem?_toList] at hc'
          have hi : i < (bs.data.map fun b => Value.int .u8 b.toNat).size := by
            rcases Nat.lt_or_ge i (bs.data.map fun b => Value.int .u8 b.toNat).size with q | q
            · exact q
            · rw [Array.getElem?_eq_none q] at hc'; cases hc'
          rw [Array.getElem?_append_left hi]; exact hc'
        · refine ⟨fun i hi h1 _ => by simp at h1 hi; omega, fun q => ?_⟩
          simp only [Nat.add_eq] at q
          rcases q with q | q <;> omega
      · rw [lenL_eq, bytesOf_length]
        exact .sliceO hi (fun _ => by simp) hcap (by omega) (by simp)
    · cases h
  · cases h
set_option maxHeartbeats 1000000 in
theorem lop_sound {n : Nat} {T : Tr AV} {a : Act} (hG : GRel E φ) (hT : TRel φ ν n T a.tmps) {o : Oper} {b : ABlk} {f : Nat → AV} (h : lop E T o.op = some (b, f)) :
    ∃ w' ob L v, (execOp a.eval o).run E.P w = .ok (.value v) w' ∧ Pushed w w' ob ∧ L.b = w.heap.size ∧ BObj φ ν b L ob ∧ ∀ (i : Nat) (φ' : Phi), φ' i = some L → VRel φ' ν (f i) v := by
  have ev := fun x => aev_sound (a := a) hG hT x
  have val : ∀ {s : Sem Value}, LayOk φ ν w b f (s.run E.P w) → ∃ w' ob L v, (do pure (.value (← s)) : Sem Next).run E.P w = .ok (.value v) w' ∧ Pushed w w' ob ∧ L.b = w.heap.size ∧ BObj φ ν b L ob ∧ ∀ (i : Nat) (φ' : Phi), φ' i = some L → VRel φ' ν (f i) v := by
    rintro s ⟨w', ob, L, v, h1, h2⟩
    exact ⟨w', ob, L, v, by simp [h1], h2⟩
  obtain ⟨dst, op, type, pos, after, guard⟩ := o
  simp only at h
  unfold lop at h
  split at h
  · rename_i e
    exact val (s := Instr.alloc e true (.tuple #[])) (opAlloc_sound h)
  · rename_i e x
    exact val (s := Instr.box e (a.eval x)) (opBox_sound h (ev _) E.P)
  · rename_i t len ps
    have hp := evParts_sound (a := a) hG hT ps.toList
    have hp' : PRel φ ν (evParts E T ps.toList) (ps.map fun (i, x) => (i, a.eval x)).toList := by simpa using hp
    have hb := opBuildSlice_sound (w := w) (cparts := ps.map fun (i, x) => (i, a.eval x)) h hp'
    obtain ⟨w', ob, L, v, h1, h2⟩ := hb
    refine ⟨w', ob, L, v, ?_, h2⟩
    simp only [execOp, Sem.run_bind, h1, Result.andThen_ok, Sem.run_pure]
  · rename_i s d x
    exact val (s := convert s d (a.eval x)) (convE_sound h (ev _))
  · rename_i t
    simp only [Option.some.injEq, Prod.mk.injEq] at h
    obtain ⟨rfl, rfl⟩ := h
    refine val (s := Instr.makeMap t none) ⟨w.alloc (.map #[] 0), .map #[] 0, ⟨w.heap.size, 0, 0⟩, .map (some w.heap.size), by simp [Instr.makeMap], Pushed.alloc _ _, rfl, .map .nil, fun i φ' hi => .map hi⟩
  · rename_i t l c
    exact val (s := Instr.makeSlice t (a.eval l) (a.eval c)) (opMakeSlice_sound h (ev _) (ev _))
  · cases h
end
end Go.Ev
