/-
  Operations that read memory are sound.
-/
import Derived.Laws.BytesString
import Derived.Test.YtebegohhjdllpaaGreatDoorEvC
set_option linter.unusedVariables false
set_option linter.unusedSimpArgs false
namespace Go.Ev
open Go Go.RowKit
section
variable {E : Env} {φ : Phi} {ν : Nat → Int} {w : World} {B : Nat} {m : AMem}
theorem cell_of {b o : Nat} {cc : Array Value} {ty : Nat} {fz : Nat × Nat} (h : w.heap[b]? = some (.cells cc ty fz)) : w.cell? ⟨b, o, none⟩ = cc[o]? := by
  simp [World.cell?, h]
/-- What an abstract block of cells says. -/
theorem MRel.cells (h : MRel E φ ν B m w) {id : Nat} {cs : List AV} {ty : Nat} {ext ro : Bool} {lo hi : Nat} {L : Loc} (hb : m.get id = some (.cells cs ty ext ro lo hi)) (hl : φ id = some L) :
    ∃ cc fz, w.heap[L.b]? = some (.cells cc ty fz) ∧ cs.length ≤ L.e ∧ L.off + L.e ≤ cc.size ∧ (ext = false → L.off = 0 ∧ L.e = cs.length ∧ cc.size = cs.length) ∧ CRel φ ν cs L.off cc ∧ FzRel L lo hi fz := by
  obtain ⟨o, h1, h2⟩ := h.blk id _ L hb hl
  cases h2 with
  | cells a b c d e => exact ⟨_, _, h1, a, b, c, d, e⟩
theorem CRel.list {cs : List AV} {off : Nat} {cc : Array Value} (h : CRel φ ν cs off cc) : LRel φ ν cs ((cc.toList.drop off).take cs.length) := by
  have hlen : ((cc.toList.drop off).take cs.length).length = cs.length := by
    rw [List.length_take, List.length_drop]
    rcases Nat.eq_zero_or_pos cs.length with h0 | h0
    · omega
    · obtain ⟨c, hc, _⟩ := h (cs.length - 1) cs[cs.length - 1] (List.getElem?_eq_getElem (by omega))
      have : off + (cs.length - 1) < cc.size := by
        rcases Nat.lt_or_ge (off + (cs.length - 1)) cc.size with q | q
        · exact q
        · rw [Array.getElem?_eq_none q] at hc; cases hc
      simp only [Array.length_toList]
      omega
  refine ⟨hlen.symm, fun i a c ha hc => ?_⟩
  obtain ⟨c', hc', hv⟩ := h i a ha
  rw [List.getElem?_take] at hc
  split at hc
  · rw [List.getElem?_drop, Array.getElem?_toList, hc'] at hc
    simp only [Option.some.injEq] at hc; subst hc; exact hv
  · cases hc
theorem loadN_sound (h : MRel E φ ν B m w) {id off n : Nat} {vs : List AV} {L : Loc} (hv : loadN m id off n = some vs) (hl : φ id = some L) :
    ∃ cvs : List Value, cvs.length = n ∧ LRel φ ν vs cvs ∧ ∀ (j : Nat) c, cvs[j]? = some c → w.cell? ⟨L.b, L.off + off + j, none⟩ = some c := by
  unfold loadN at hv
  split at hv
  · rename_i cs ty ext ro lo hi hb
    split at hv
    · rename_i hle
      simp only [Option.some.injEq] at hv; subst hv
      have hle' := nat_ble hle
      rw [lenL_eq] at hle'
      obtain ⟨cc, fz, h1, h2, h3, h4, h5, h6⟩ := h.cells hb hl
      rw [takeL_eq, dropL_eq]
      have hlr := (h5.list.drop off).take n
      refine ⟨_, ?_, hlr, ?_⟩
      · rw [← hlr.1]; simp only [List.length_take, List.length_drop]
        simp only [Nat.add_eq] at hle'; omega
      · intro j c hc
        rw [List.getElem?_take] at hc
        split at hc
        · rw [List.getElem?_drop, List.getElem?_take] at hc
          split at hc
          · rw [List.getElem?_drop, Array.getElem?_toList] at hc
            rw [cell_of h1, show L.off + off + j = L.off + (off + j) from by omega]; exact hc
          · cases hc
        · cases hc
    · cases hv
  · cases hv
theorem load1k_sound (h : MRel E φ ν B m w) {id off : Nat} {v : AV} {L : Loc} (hv : load1 m id off = some v) (hl : φ id = some L) :
    ∃ c, w.cell? ⟨L.b, L.off + off, none⟩ = some c ∧ VRel φ ν v c := by
  unfold load1 at hv
  split at hv
  · rename_i cs ty ext ro lo hi hb
    obtain ⟨cc, fz, h1, h2, h3, h4, h5, h6⟩ := h.cells hb hl
    rw [getL_eq] at hv
    obtain ⟨c, hc, hvr⟩ := h5 off v hv
    exact ⟨c, by rw [cell_of h1]; exact hc, hvr⟩
  · cases hv
theorem run_loadCells' {P : Program} {b o n : Nat} {cvs : List Value} (hn : cvs.length = n) (h : ∀ (j : Nat) c, cvs[j]? = some c → w.cell? ⟨b, o + j, none⟩ = some c) :
    (loadCells ⟨b, o, none⟩ n).run P w = .ok cvs.toArray w := by
  subst hn
  have := run_loadCells_list (P := P) (w := w) ⟨b, o, none⟩ cvs (fun j v hj => by rw [addr_add]; exact h j v hj)
  exact this
theorem opLoad_sound (h : MRel E φ ν B m w) {t : Nat} {x v : AV} (hv : opLoad E t x m = some v) {cx : Value} (hx : VRel φ ν x cx) : ∃ a, cx = .pointer (some a) ∧ Gives E.P φ ν w (loadVar t a) v := by
  unfold opLoad at hv
  split at hv
  · rename_i id off
    obtain ⟨L, hL, rfl⟩ := hx.ptr_inv
    refine ⟨_, rfl, ?_⟩
    split at hv
    · rename_i d hd
      split at hv
      · rename_i hag
        split at hv
        · rename_i n hn
          obtain ⟨inf, hinf, rfl⟩ := sizeA_some hn
          split at hv
          · rename_i cs hcs
            simp only [Option.some.injEq] at hv; subst hv
            obtain ⟨cvs, h1, h2, h3⟩ := loadN_sound h hcs hL
            refine ⟨.agg cvs.toArray, ?_, VRel.agg' h2⟩
            have e := run_loadCells' (P := E.P) h1 h3
            simp [loadVar, run_agg hd, hag, run_size hinf, e]
          · cases hv
        · cases hv
      · rename_i hag
        split at hv
        · rename_i y hy
          simp only [Option.some.injEq] at hv; subst hv
          obtain ⟨c, h1, h2⟩ := load1k_sound h hy hL
          exact ⟨c, by simp [loadVar, run_agg hd, hag, h1], h2⟩
        · cases hv
    · cases hv
  · cases hv
theorem loadBytes_sound : ∀ {vs : List AV} {l : List Nat}, valBytes vs = some l → ∀ {cvs : List Value}, LRel φ ν vs cvs → ∃ bs : List UInt8, bs.map UInt8.toNat = l ∧ cvs = bs.map fun b => Value.int .u8 b.toNat := by
  intro vs
  induction vs with
  | nil => intro l h cvs hl; simp only [valBytes, Option.some.injEq] at h; subst h; exact ⟨[], rfl, hl.nil_inv⟩
  | cons a vs ih =>
    intro l h cvs hl
    unfold valBytes at h
    split at h
    · rename_i h'; cases h'
    · rename_i b l' h'
      simp only [List.cons.injEq] at h'
      obtain ⟨rfl, rfl⟩ := h'
      split at h
      · rename_i r hb hr
        simp only [Option.some.injEq] at h; subst h
        obtain ⟨c, cs, rfl, hc, ht⟩ := hl.cons_inv
        obtain ⟨bs, h1, h2⟩ := ih hr ht
        cases hc.int_inv
        refine ⟨UInt8.ofNat b :: bs, ?_, ?_⟩
        · have := nat_blt hb
          simp only [List.map_cons, h1]
          congr 1
          simp; omega
        · have := nat_blt hb
          subst h2
          simp only [List.map_cons]
          congr 1
          have : (UInt8.ofNat b).toNat = b := by simp; omega
          rw [this]; rfl
      · cases h
    · cases h
end
end Go.Ev
namespace Go.Ev
open Go Go.RowKit
section
variable {E : Env} {φ : Phi} {ν : Nat → Int} {w : World} {B : Nat} {m : AMem}
theorem fold_push : ∀ (bs : List UInt8) (s : ByteArray), ((bs.map fun b => (b.toNat : Int)).foldl (fun r n => r.push (UInt8.ofNat n.toNat)) s) = ⟨s.data ++ bs.toArray⟩ := by
  intro bs
  induction bs with
  | nil => intro s; simp
  | cons b bs ih =>
    intro s
    simp only [List.map_cons, List.foldl_cons]
    rw [ih]
    simp [ByteArray.push]
theorem run_bytesToString' (P : Program) (w : World) {b o c : Nat} (bs : List UInt8)
    (h : ∀ (j : Nat) x, (bs.map fun b => Value.int .u8 b.toNat)[j]? = some x → w.cell? ⟨b, o + j, none⟩ = some x) :
    (Conv.bytesToString (.slice (some ⟨b, o, none⟩) bs.length c)).run P w = .ok (.string ⟨bs.toArray⟩) w := by
  have e := run_loadCells' (P := P) (w := w) (b := b) (o := o) (n := bs.length) (cvs := bs.map fun b => Value.int .u8 b.toNat) (by simp) h
  have e' : (bs.map fun b => Value.int .u8 b.toNat) = (bs.map fun b => (b.toNat : Int)).map (Value.int .u8) := by simp
  rw [e'] at e
  rw [run_bytesToString w _ _ _ _ e, fold_push]
  simp
theorem bytesOf_mk (bs : List UInt8) : bytesOf ⟨bs.toArray⟩ = bs.map UInt8.toNat := rfl
theorem shape_of {b : Nat} {cc : Array Value} {ty : Nat} {fz : Nat × Nat} (h : w.heap[b]? = some (.cells cc ty fz)) : w.shape? b = some (ty, cc.size) := by
  simp [World.shape?, h]
theorem convR_sound (h : MRel E φ ν B m w) {s d : Nat} {x v : AV} (hv : convR E s d x m = some v) {cx : Value} (hx : VRel φ ν x cx) : Gives E.P φ ν w (convert s d cx) v := by
  unfold convR at hv
  split at hv
  · rename_i us ud hus hud
    split at hv
    · rename_i e
      cases hx.nilSlice_inv
      split at hv
      · rename_i he
        simp only [Option.some.injEq] at hv; subst hv
        refine ⟨.string .empty, ?_, VRel.str .empty⟩
        rw [run_convert_bytes_string w s d e _ _ _ hus he hud]
        simp [Conv.bytesToString]
      · cases hv
    · rename_i e id off len cap
      obtain ⟨L, a, c, rfl, hS⟩ := hx.slice_inv
      split at hv
      · rename_i vs he hvs
        split at hv
        · rename_i l hl
          simp only [Option.some.injEq] at hv; subst hv
          obtain ⟨cvs, h1, h2, h3⟩ := loadN_sound h hvs hS.loc
          obtain ⟨bs, rfl, hbs⟩ := loadBytes_sound hl h2
          subst hbs
          simp only [List.length_map] at h1
          subst h1
          refine ⟨.string ⟨bs.toArray⟩, ?_, by rw [← bytesOf_mk]; exact .str _⟩
          rw [run_convert_bytes_string w s d e _ _ _ hus he hud]
          by_cases hc : c = 0
          · have : bs.length = 0 := by have := hS.le; omega
            have : bs = [] := List.length_eq_zero_iff.1 this
            subst this
            have := run_bytesToString (P := E.P) w a 0 c [] (by simp [loadCells, loadCellsFrom])
            simp only [List.foldl_nil] at this
            exact this
          · have ha := hS.addr hc; subst ha
            exact run_bytesToString' E.P w bs h3
        · cases hv
      · cases hv
    · rename_i t id off
      obtain ⟨L, hL, rfl⟩ := hx.ptr_inv
      split at hv
      · rename_i cs ty ro lo hi inf hb hinf
        split at hv
        · rename_i hlt h0
          simp only [Option.some.injEq] at hv; subst hv
          obtain ⟨cc, fz, h1, h2, h3, h4, h5, h6⟩ := h.cells hb hL
          obtain ⟨e1, e2, e3⟩ := h4 rfl
          have hlt' := nat_blt hlt
          rw [lenL_eq] at hlt'
          refine ⟨_, ?_, hx⟩
          simp only [convert, Sem.run_bind, run_underlying hus, run_underlying hud, Result.andThen_ok, Conv.unsafePointer, Conv.seenAt, viewAt, run_shape, shape_of h1, Option.isSome_some, if_true, Sem.run_pure, cellsIn, run_size hinf]
          have q1 : ¬ (decide (L.off + off ≥ cc.size) && (none : Option Nat).isNone) = true := by simp; omega
          simp only [Sem.run_ite]
          rw [if_neg]
          · rfl
          · intro q
            rw [Bool.or_eq_true, decide_eq_true_eq] at q
            rcases q with q | q
            · exact nat_beq_false h0 q
            · exact q1 q
        · cases hv
      · cases hv
    · rename_i u id off
      obtain ⟨L, hL, rfl⟩ := hx.ptr_inv
      split at hv
      · rename_i cs ty ro lo hi inf hb hinf
        split at hv
        · rename_i h0 hla
          simp only [Option.some.injEq] at hv; subst hv
          obtain ⟨cc, fz, h1, h2, h3, h4, h5, h6⟩ := h.cells hb hL
          obtain ⟨e1, e2, e3⟩ := h4 rfl
          rw [lenL_eq] at hla
          refine ⟨_, ?_, hx⟩
          simp only [convert, Sem.run_bind, run_underlying hus, run_underlying hud, Result.andThen_ok, Conv.unsafePointer, Conv.seenAt, viewAt, run_shape, shape_of h1, Option.isSome_some, if_true, Sem.run_pure, variablesAt, run_size hinf, run_program]
          rw [e1, Nat.zero_add, e3, hla]
          simp
        · cases hv
      · cases hv
    · cases hv
  · cases hv
theorem EsRel.length {es : List AEnt} {cs : List MapEntry} (h : EsRel φ ν es cs) : es.length = cs.length := by
  induction h with
  | nil => rfl
  | cons _ _ _ _ ih => simp [ih]
theorem MRel.map (h : MRel E φ ν B m w) {id : Nat} {es : List AEnt} {n : Nat} {L : Loc} (hb : m.get id = some (.map es n)) (hl : φ id = some L) :
    ∃ ces, w.heap[L.b]? = some (.map ces n) ∧ EsRel φ ν es ces.toList := by
  obtain ⟨o, h1, h2⟩ := h.blk id _ L hb hl
  cases h2 with
  | map h => exact ⟨_, h1, h⟩
theorem run_getObj_map {P : Program} {b : Nat} {ces : Array MapEntry} {n : Nat} (h : w.heap[b]? = some (.map ces n)) : (getObj b).run P w = .ok (.map ces n) w := by
  simp [getObj, Sem.run, h]
theorem bLen_sound (h : MRel E φ ν B m w) {t : Nat} {x v : AV} (hv : bLen E t x m = some v) {cx : Value} (hx : VRel φ ν x cx) {ts : Array TypeId} {u : Nat} (ht : ts[0]? = some t) : Gives E.P φ ν w (Builtin.len_ ts u #[cx]) v := by
  unfold bLen at hv
  split at hv
  · rename_i hu
    obtain ⟨s, rfl, hs⟩ := hx.str_inv
    have := intV_some hv; subst this; subst hs
    refine ⟨goInt s.size, by simp [Builtin.len_, ht, run_underlying hu], ?_⟩
    rw [lenL_eq, bytesOf_length]; exact .int _ _
  · rename_i n e hu
    simp only [Option.some.injEq] at hv; subst hv
    refine ⟨goInt n, by simp [Builtin.len_, ht, run_underlying hu], .int _ _⟩
  · rename_i e id off n cap hu
    obtain ⟨L, a, c, rfl, hS⟩ := hx.slice_inv
    simp only [Option.some.injEq] at hv; subst hv
    exact ⟨goInt n, by simp [Builtin.len_, ht, run_underlying hu], .int _ _⟩
  · rename_i e hu
    cases hx.nilSlice_inv
    simp only [Option.some.injEq] at hv; subst hv
    exact ⟨goInt 0, by simp [Builtin.len_, ht, run_underlying hu], .int _ _⟩
  · rename_i k e hu
    cases hx.nilMap_inv
    simp only [Option.some.injEq] at hv; subst hv
    exact ⟨goInt 0, by simp [Builtin.len_, ht, run_underlying hu], .int _ _⟩
  · rename_i k e id hu
    obtain ⟨L, hL, rfl⟩ := hx.map_inv
    split at hv
    · rename_i es n hb
      obtain ⟨ces, h1, h2⟩ := h.map hb hL
      have := intV_some hv; subst this
      refine ⟨goInt ces.size, by simp [Builtin.len_, ht, run_underlying hu, run_getObj_map h1], ?_⟩
      rw [h2.length]; exact .int _ _
    · cases hv
  · cases hv
end
end Go.Ev
namespace Go.Ev
open Go Go.RowKit
section
variable {E : Env} {φ : Phi} {ν : Nat → Int} {w : World} {B : Nat} {m : AMem}
/-- Keys are what they read as. -/
theorem keyLeaf_unique {a : AV} (h : keyLeaf a = true) {v v' : Value} (hv : VRel φ ν a v) (hv' : VRel φ ν a v') : v = v' := by
  cases a <;> first
    | (simp [keyLeaf] at h; done)
    | skip
  · rw [hv.bool_inv, hv'.bool_inv]
  · rw [hv.int_inv, hv'.int_inv]
  · obtain ⟨s, rfl, h1⟩ := hv.str_inv; obtain ⟨s', rfl, h2⟩ := hv'.str_inv
    rw [bytesOf_inj (h1.trans h2.symm)]
theorem keyAll_unique : ∀ {as : List AV}, keyAll as = true → ∀ {cs cs' : List Value}, LRel φ ν as cs → LRel φ ν as cs' → cs = cs' := by
  intro as
  induction as with
  | nil => intro _ cs cs' h h'; rw [h.nil_inv, h'.nil_inv]
  | cons a as ih =>
    intro hk cs cs' h h'
    unfold keyAll at hk
    split at hk
    · rename_i hl
      obtain ⟨c, cs1, rfl, hc, ht⟩ := h.cons_inv
      obtain ⟨c', cs2, rfl, hc', ht'⟩ := h'.cons_inv
      rw [keyLeaf_unique hl hc hc', ih hk ht ht']
    · cases hk
theorem key_unique {a : AV} (h : keyOk a = true) {v v' : Value} (hv : VRel φ ν a v) (hv' : VRel φ ν a v') : v = v' := by
  unfold keyOk at h
  split at h
  · obtain ⟨cs, rfl, h1⟩ := hv.agg_inv; obtain ⟨cs', rfl, h2⟩ := hv'.agg_inv
    rw [keyAll_unique h h1 h2]
  · exact keyLeaf_unique h hv hv'
theorem eqLeaf_eq {a b : AV} (h : eqLeaf a b = true) : a = b := by
  unfold eqLeaf at h
  split at h
  · split at h
    · rename_i hk
      have := kEq_eq hk; subst this
      rw [eqI_eq] at h
      have := of_decide_eq_true h; subst this; rfl
    · cases h
  · rw [eqN_eq] at h
    have := of_decide_eq_true h; subst this; rfl
  · have : (_ : Bool) = _ := beq_iff_eq.1 h
    subst this; rfl
  · cases h
theorem eqAll_eq : ∀ {a b : List AV}, eqAll a b = true → a = b := by
  intro a
  induction a with
  | nil => intro b h; cases b with
    | nil => rfl
    | cons _ _ => simp [eqAll] at h
  | cons x a ih =>
    intro b h
    cases b with
    | nil => simp [eqAll] at h
    | cons y b =>
      unfold eqAll at h
      split at h
      · rename_i hl
        rw [eqLeaf_eq hl, ih h]
      · cases h
theorem eqKey_eq {a b : AV} (h : eqKey a b = true) : a = b := by
  unfold eqKey at h
  split at h
  · rw [eqAll_eq h]
  · exact eqLeaf_eq h
theorem eqA_op {kt : Nat} {a b : AV} {r : Bool} (h : eqA E.P eqD kt a b = some r) {x y : Value} (hx : VRel φ ν a x) (hy : VRel φ ν b y) (w : World) : (Op.equal kt x y).run E.P w = .ok r w :=
  eqA_sound eqD 10000 (by decide) kt a b r x y w h hx hy
theorem sameNow_eq {kt : Nat} {td : TypeDesc} (ht : E.P.underlying kt = some td) {x y : Value} {b r : Bool} (hs : Instr.sameNow td x y = some b) (hr : (Op.equal kt x y).run E.P w = .ok r w) : b = r := by
  unfold Instr.sameNow at hs
  split at hs
  · rename_i k0 k a k' c
    split at hs
    · rename_i hk
      subst hk
      simp only [Option.some.injEq] at hs; subst hs
      have := run_equalIn_int w 9999 kt k k0 a c ht
      rw [Op.equal, Op.maxDepth, this] at hr
      simpa using hr
    · cases hs
  · simp only [Option.some.injEq] at hs; subst hs
    rename_i a c
    have := run_equalIn_string w 9999 kt a c ht
    rw [Op.equal, Op.maxDepth, this] at hr
    rw [beq_toListBytes]
    simpa using hr
  · simp only [Option.some.injEq] at hs; subst hs
    rename_i a c
    have := run_equalIn_bool' w 9999 kt a c ht
    rw [Op.equal, Op.maxDepth, this] at hr
    simpa using hr
  · cases hs
/-- What a search comes to. -/
def FoundRel (φ : Phi) (ν : Nat → Int) (es : List AEnt) (ces : List MapEntry) (i : Nat) : Found → Option (Nat × Value) → Prop
  | .no, r => r = none
  | .at j v, r => ∃ c n, r = some (j, c) ∧ VRel φ ν v c ∧ j = i + n ∧ (∃ e, es[n]? = some e ∧ e.val = v) ∧ (∃ ce, ces[n]? = some ce ∧ ce.val = c)
  | .bad, _ => True
theorem FoundRel.next {e : AEnt} {ce : MapEntry} {es : List AEnt} {ces : List MapEntry} {i : Nat} {f : Found} {r : Option (Nat × Value)} (h : FoundRel φ ν es ces (i + 1) f r) : FoundRel φ ν (e :: es) (ce :: ces) i f r := by
  cases f with
  | no => exact h
  | bad => trivial
  | «at» j v =>
    obtain ⟨c, n, h1, h2, h3, ⟨e', h4, h5⟩, ⟨ce', h6, h7⟩⟩ := h
    exact ⟨c, n + 1, h1, h2, by omega, ⟨e', by simpa using h4, h5⟩, ⟨ce', by simpa using h6, h7⟩⟩
theorem asking_sound {kt : Nat} {k : AV} {ck : Value} (hk : VRel φ ν k ck) {es : List AEnt} {ces : List MapEntry} (he : EsRel φ ν es ces) : ∀ (i : Nat), findA E.P kt k es i ≠ .bad →
    ∃ r, (Instr.findAsking kt ck ces i).run E.P w = .ok r w ∧ FoundRel φ ν es ces i (findA E.P kt k es i) r := by
  induction he with
  | nil => intro i _; exact ⟨none, rfl, rfl⟩
  | @cons e ce es ces h1 h2 h3 h4 ih =>
    intro i hb
    unfold findA at hb ⊢
    unfold Instr.findAsking
    split at hb
    · rename_i ho he
      split at hb
      · rename_i hq
        refine ⟨some (i, ce.val), ?_, ce.val, 0, rfl, h2, rfl, ⟨e, rfl, rfl⟩, ⟨ce, rfl, rfl⟩⟩
        simp [eqA_op he hk h1 w]
      · exact absurd rfl hb
    · rename_i ho he
      obtain ⟨r, hr1, hr2⟩ := ih (i + 1) hb
      refine ⟨r, ?_, hr2.next⟩
      simp [eqA_op he hk h1 w]
      exact hr1
    · exact absurd rfl hb
theorem now_sound {kt : Nat} {td : TypeDesc} (ht : E.P.underlying kt = some td) {k : AV} {ck : Value} (hk : VRel φ ν k ck) {es : List AEnt} {ces : List MapEntry} (he : EsRel φ ν es ces) : ∀ (i : Nat) r, findA E.P kt k es i ≠ .bad →
    Instr.findNow td ck ces i = some r → FoundRel φ ν es ces i (findA E.P kt k es i) r := by
  induction he with
  | nil => intro i r _ h; simp only [Instr.findNow, Option.some.injEq] at h; subst h; rfl
  | @cons e ce es ces h1 h2 h3 h4 ih =>
    intro i r hb h
    unfold findA at hb ⊢
    unfold Instr.findNow at h
    split at hb
    · rename_i ho he
      have hr := eqA_op he hk h1 default
      split at h
      · rename_i hs
        simp only [Option.some.injEq] at h; subst h
        split at hb
        · rename_i hq
          exact ⟨ce.val, 0, rfl, h2, rfl, ⟨e, rfl, rfl⟩, ⟨ce, rfl, rfl⟩⟩
        · exact absurd rfl hb
      · rename_i hs
        have := sameNow_eq ht hs hr
        cases this
      · cases h
    · rename_i ho he
      have hr := eqA_op he hk h1 default
      split at h
      · rename_i hs
        have := sameNow_eq ht hs hr
        cases this
      · exact (ih (i + 1) r hb h).next
      · cases h
    · exact absurd rfl hb
theorem findKey_sound {kt : Nat} {td : TypeDesc} (ht : E.P.underlying kt = some td) {k : AV} {ck : Value} (hk : VRel φ ν k ck) {es : List AEnt} {ces : List MapEntry} (he : EsRel φ ν es ces) (hb : findA E.P kt k es 0 ≠ .bad) :
    ∃ r, (Instr.findKey kt ck ces).run E.P w = .ok r w ∧ FoundRel φ ν es ces 0 (findA E.P kt k es 0) r := by
  simp only [Instr.findKey, Sem.run_bind, run_underlying ht, Result.andThen_ok]
  split
  · rename_i r hr
    exact ⟨r, rfl, now_sound ht hk he 0 r hb hr⟩
  · exact asking_sound hk he 0 hb
/-- 'checkKey' lets such keys by. -/
theorem checkFs_sound {d D : Nat} {emp : Bool} (ih : ∀ (t : Nat) (k : AV) (ck : Value) (w : World), checkedA E.P d t k = true → VRel φ ν k ck → (Instr.checkKey emp D t ck).run E.P w = .ok () w)
    {cs : List AV} {ccs : List Value} (hl : LRel φ ν cs ccs) (w : World) : ∀ fs : List Field, checkedA.checkFs E.P (fun t k => checkedA E.P d t k) cs fs = true →
      (forIn fs PUnit.unit (fun f _ => do
        if f.name ≠ "_" then Instr.checkKey emp D f.type (← part f.type ccs.toArray f.offset)
        pure (ForInStep.yield PUnit.unit) : Field → PUnit → Sem (ForInStep PUnit))).run E.P w = .ok PUnit.unit w := by
  intro fs
  induction fs with
  | nil => intro _; rfl
  | cons f fs ihf =>
    intro h
    unfold checkedA.checkFs at h
    simp only [List.forIn_cons, Sem.run_bind]
    by_cases hn : f.name = "_"
    · rw [if_pos hn] at h
      rw [if_neg (by simp [hn])]
      simp only [Sem.run_pure, Result.andThen_ok]
      exact ihf h
    · rw [if_neg hn] at h
      rw [if_pos hn]
      split at h
      · rename_i k hk
        obtain ⟨c, hc, hv⟩ := partA_sound hk hl w
        split at h
        · rename_i hck
          simp only [Sem.run_bind, hc, Result.andThen_ok, ih f.type k c w hck hv, Sem.run_pure]
          exact ihf h
        · cases h
      · cases h
theorem checkRow_sound {D : Nat} {emp : Bool} {elem : Nat} {inf : TypeInfo} (hinf : E.P.info? elem = some inf) {ckf : AV → Bool} (ih : ∀ (k : AV) (ck : Value) (w : World), ckf k = true → VRel φ ν k ck → (Instr.checkKey emp D elem ck).run E.P w = .ok () w)
    {cs : List AV} {ccs : List Value} (hl : LRel φ ν cs ccs) (w : World) : ∀ (n i : Nat), checkedA.checkRow E.P ckf elem inf.size cs n i = true →
      (forIn (List.range' i n) PUnit.unit (fun i _ => do
        Instr.checkKey emp D elem (← part elem ccs.toArray (i * (← sizeOf elem)))
        pure (ForInStep.yield PUnit.unit) : Nat → PUnit → Sem (ForInStep PUnit))).run E.P w = .ok PUnit.unit w := by
  intro n
  induction n with
  | zero => intro i _; rfl
  | succ n ihn =>
    intro i h
    unfold checkedA.checkRow at h
    simp only [List.range'_succ, List.forIn_cons, Sem.run_bind]
    split at h
    · rename_i k hk
      obtain ⟨c, hc, hv⟩ := partA_sound hk hl w
      simp only [Nat.mul_eq] at hc
      split at h
      · rename_i hck
        simp only [run_size hinf, hc, Result.andThen_ok, ih k c w hck hv, Sem.run_pure]
        exact ihn (i + 1) h
      · cases h
    · cases h
theorem checkedA_sound {emp : Bool} : ∀ (d D : Nat), d ≤ D → ∀ (t : Nat) (k : AV) (ck : Value) (w : World), checkedA E.P d t k = true → VRel φ ν k ck → (Instr.checkKey emp D t ck).run E.P w = .ok () w := by
  intro d
  induction d with
  | zero => intro D _ t k ck w h; simp [checkedA] at h
  | succ d ihd =>
    intro D hD t k ck w h hk
    obtain ⟨D, rfl⟩ : ∃ q, D = q + 1 := ⟨D - 1, by omega⟩
    have ih := ihd D (by omega)
    unfold checkedA at h
    split at h
    · rename_i td htd
      have hu := run_underlying htd w
      split at h
      · simp [Instr.checkKey, hu]
      · simp [Instr.checkKey, hu]
      · simp [Instr.checkKey, hu]
      · rename_i fields
        split at h
        · obtain ⟨ccs, rfl, hl⟩ := hk.agg_inv
          have := checkFs_sound (fun t k ck w => ih t k ck w) hl w fields.toList h
          simp only [Instr.checkKey, Sem.run_bind, hu, Result.andThen_ok]
          rw [← Array.forIn_toList]
          rw [this]; rfl
        · cases h
      · rename_i len elem
        split at h
        · rename_i cs inf hinf
          obtain ⟨ccs, rfl, hl⟩ := hk.agg_inv
          have := checkRow_sound (emp := emp) (D := D) hinf (fun k ck w => ih elem k ck w) hl w len 0 h
          simp only [Instr.checkKey, Sem.run_bind, hu, Result.andThen_ok]
          simp only [Std.Legacy.Range.forIn_eq_forIn_range', Std.Legacy.Range.size, Nat.sub_zero, Nat.add_sub_cancel, Nat.div_one]
          rw [this]; rfl
        · cases h
      · cases h
    · cases h
end
end Go.Ev
namespace Go.Ev
open Go Go.RowKit
section
variable {E : Env} {φ : Phi} {ν : Nat → Int} {w : World} {B : Nat} {m : AMem}
theorem keyFit_typed {kt : Nat} {k : AV} (h : keyFit E.P kt k = true) : keyOk k = true ∧ checkedA E.P eqD kt k = true ∧ eqA E.P eqD kt k k = some true := by
  unfold keyFit at h
  split at h
  · rename_i h1
    unfold keyTyped at h1
    split at h1
    · rename_i h2 h3
      exact ⟨h2, h, h3⟩
    · cases h1
  · cases h
theorem keyFit_desc {kt : Nat} {k : AV} (h : keyFit E.P kt k = true) : ∃ td, E.P.underlying kt = some td := by
  have := (keyFit_typed h).2.1
  unfold eqD checkedA at this
  split at this
  · exact ⟨_, ‹_›⟩
  · cases this
theorem opLookup_sound (h : MRel E φ ν B m w) {t : Nat} {x k v : AV} {ok : Bool} (hv : opLookup E t x k ok m = some v) {cx ck : Value} (hx : VRel φ ν x cx) (hk : VRel φ ν k ck) : Gives E.P φ ν w (Instr.lookup t cx ck ok) v := by
  unfold opLookup at hv
  split at hv
  · rename_i kt et ht
    split at hv
    · rename_i z hkf hz
      obtain ⟨i, zv, hi, hzv, hzr⟩ := zeroA_sound (φ := φ) (ν := ν) hz
      obtain ⟨hk1, hk2, hk3⟩ := keyFit_typed hkf
      obtain ⟨td, htd⟩ := keyFit_desc hkf
      have hck : ∀ emp, (Instr.checkKey emp 10000 kt ck).run E.P w = .ok () w := fun emp => checkedA_sound eqD 10000 (by decide) kt k ck w hk2 hk
      split at hv
      · cases hx.nilMap_inv
        simp only [Option.some.injEq] at hv; subst hv
        have e : (Instr.findKey kt ck []).run E.P w = .ok none w := by
          obtain ⟨r, h1, h2⟩ := findKey_sound (w := w) htd hk EsRel.nil (by simp [findA])
          rw [h1]; exact congrArg (fun q => Result.ok q w) h2
        cases ok
        · exact ⟨zv, by simp [Instr.lookup, run_underlying ht, hck, e, run_zero hi hzv], hzr⟩
        · exact ⟨.tuple #[zv, .bool false], by simp [Instr.lookup, run_underlying ht, hck, e, run_zero hi hzv], VRel.tup' (cs := [zv, .bool false]) (.cons hzr (.cons (.bool _) .nil))⟩
      · rename_i id
        obtain ⟨L, hL, rfl⟩ := hx.map_inv
        split at hv
        · rename_i es n hb
          obtain ⟨ces, h1, h2⟩ := h.map hb hL
          split at hv
          · rename_i hf
            simp only [Option.some.injEq] at hv; subst hv
            obtain ⟨r, h3, h4⟩ := findKey_sound (w := w) htd hk h2 (by rw [hf]; simp)
            rw [hf] at h4
            simp only [FoundRel] at h4; subst h4
            cases ok
            · exact ⟨zv, by simp [Instr.lookup, run_underlying ht, run_getObj_map h1, hck, h3, run_zero hi hzv], hzr⟩
            · exact ⟨.tuple #[zv, .bool false], by simp [Instr.lookup, run_underlying ht, run_getObj_map h1, hck, h3, run_zero hi hzv], VRel.tup' (cs := [zv, .bool false]) (.cons hzr (.cons (.bool _) .nil))⟩
          · rename_i j y hf
            simp only [Option.some.injEq] at hv; subst hv
            obtain ⟨r, h3, h4⟩ := findKey_sound (w := w) htd hk h2 (by rw [hf]; simp)
            rw [hf] at h4
            obtain ⟨c, q, h5, h6, _⟩ := h4
            subst h5
            cases ok
            · exact ⟨c, by simp [Instr.lookup, run_underlying ht, run_getObj_map h1, hck, h3], h6⟩
            · exact ⟨.tuple #[c, .bool true], by simp [Instr.lookup, run_underlying ht, run_getObj_map h1, hck, h3], VRel.tup' (cs := [c, .bool true]) (.cons h6 (.cons (.bool _) .nil))⟩
          · cases hv
        · cases hv
      · cases hv
    · cases hv
  · cases hv
theorem lastN_eq : ∀ (l : List Nat), lastN l = l.getLast? := by
  intro l
  induction l with
  | nil => rfl
  | cons a l ih =>
    cases l with
    | nil => rfl
    | cons b l => show lastN (b :: l) = _; rw [ih]; simp
theorem findBorn_sound : ∀ {es : List AEnt} {ces : List MapEntry}, EsRel φ ν es ces → ∀ {n : Nat} {e : AEnt}, findBorn n es = some e → ∃ ce, ces.find? (·.born == n) = some ce ∧ VRel φ ν e.key ce.key ∧ VRel φ ν e.val ce.val := by
  intro es ces h
  induction h with
  | nil => intro n e h; simp [findBorn] at h
  | @cons e' ce' es ces h1 h2 h3 h4 ih =>
    intro n e h
    unfold findBorn at h
    split at h
    · rename_i hb
      simp only [Option.some.injEq] at h; subst h
      have := nat_beq hb
      refine ⟨ce', ?_, h1, h2⟩
      rw [h3] at this
      simp [this]
    · rename_i hb
      have := nat_beq_false hb
      rw [h3] at this
      obtain ⟨ce, q1, q2⟩ := ih h
      refine ⟨ce, ?_, q2⟩
      rw [List.find?_cons_of_neg (by simpa using this)]
      exact q1
theorem run_getObj_other {P : Program} {b : Nat} {o : Obj} (h : w.heap[b]? = some o) (hc : ∀ c t f, o ≠ .cells c t f) : (getObj b).run P w = .ok o w := by
  cases o <;> first
    | (exact absurd rfl (hc _ _ _))
    | simp [getObj, Sem.run, h]
theorem opEntry_sound (h : MRel E φ ν B m w) {it v : AV} (hv : opEntry it m = some v) {cx : Value} (hx : VRel φ ν it cx) : Gives E.P φ ν w (Instr.entry cx) v := by
  unfold opEntry at hv
  split at hv
  · rename_i r
    obtain ⟨L, hL, rfl⟩ := hx.ptr_inv
    split at hv
    · rename_i id since seen stepped hb
      obtain ⟨o, h1, h2⟩ := h.blk r _ L hb hL
      cases h2 with
      | @miterS _ _ _ _ _ L' h0 hL' =>
        split at hv
        · rename_i st es clock hst hm
          obtain ⟨ces, h3, h4⟩ := h.map hm hL'
          split at hv
          · rename_i e hc hf
            simp only [Option.some.injEq] at hv; subst hv
            obtain ⟨ce, q1, q2, q3⟩ := findBorn_sound h4 hf
            have hck := nat_beq hc
            refine ⟨.tuple #[ce.key, ce.val], ?_, VRel.tup' (cs := [ce.key, ce.val]) (.cons q2 (.cons q3 .nil))⟩
            rw [lastN_eq] at hst
            have hst' : seen.toArray.back? = some st := by rw [List.back?_toArray]; exact hst
            have hf' : ces.find? (·.born == st) = some ce := by rw [← Array.find?_toList]; exact q1
            simp only [Instr.entry, h0, Nat.zero_add, Sem.run_bind, run_getObj_other h1 (by simp), Result.andThen_ok, hst', run_getObj_map h3, hck, bne_self_eq_false, Bool.false_eq_true, if_false, hf', Sem.run_pure]
          · cases hv
        · cases hv
    · rename_i id since stepped st must gone k hb
      obtain ⟨o, h1, h2⟩ := h.blk r _ L hb hL
      cases h2 with
      | @miterW _ _ _ _ _ _ _ seen _ L' h0 hL' hnd hlt hlen hmu hgo hcur =>
        split at hv
        · rename_i es clock hm
          obtain ⟨ces, h3, h4⟩ := h.map hm hL'
          split at hv
          · rename_i e hc hf
            simp only [Option.some.injEq] at hv; subst hv
            obtain ⟨ce, q1, q2, q3⟩ := findBorn_sound h4 hf
            have hck := nat_beq hc
            refine ⟨.tuple #[ce.key, ce.val], ?_, VRel.tup' (cs := [ce.key, ce.val]) (.cons q2 (.cons q3 .nil))⟩
            have hst := hcur _ rfl
            have hst' : seen.toArray.back? = some st := by rw [List.back?_toArray]; exact hst
            have hf' : ces.find? (·.born == st) = some ce := by rw [← Array.find?_toList]; exact q1
            simp only [Instr.entry, h0, Nat.zero_add, Sem.run_bind, run_getObj_other h1 (by simp), Result.andThen_ok, hst', run_getObj_map h3, hck, bne_self_eq_false, Bool.false_eq_true, if_false, hf', Sem.run_pure]
          · cases hv
        · cases hv
    · cases hv
  · cases hv
theorem rop0k_sound (h : MRel E φ ν B m w) {n : Nat} {T : Tr AV} {a : Act} (hT : TRel φ ν n T a.tmps) {o : Oper} {v : AV} (hv : rop0 E T m o.op = some v) :
    ∃ x, (execOp a.eval o).run E.P w = .ok (.value x) w ∧ VRel φ ν v x := by
  have ev := fun x => aev_sound (a := a) h.toGRel hT x
  have el := fun l => evAll_sound (a := a) h.toGRel hT l
  obtain ⟨dst, op, type, pos, after, guard⟩ := o
  simp only at hv
  unfold rop0 at hv
  split at hv
  · rename_i t x
    obtain ⟨b, hb, hg⟩ := opLoad_sound h hv (ev x)
    obtain ⟨y, h1, h2⟩ := hg
    refine ⟨y, ?_, h2⟩
    simp [execOp, Instr.loadAt, hb, Instr.sureAddr, h1]
  · exact (opLookup_sound h hv (ev _) (ev _)).value
  · exact (opEntry_sound h hv (ev _)).value
  · exact (convR_sound h hv (ev _)).value
  · rename_i c
    split at hv
    · rename_i b hb
      have hl := el c.args.toList
      unfold readB at hv
      split at hv
      · rename_i ts t r x hts hargs
        rw [hargs] at hl
        obtain ⟨cx, cr, e1, hx, hr⟩ := hl.cons_inv
        have := hr.nil_inv; subst this
        have ht' : c.argTypes[0]? = some t := by rw [← Array.getElem?_toList, hts]; rfl
        obtain ⟨y, h1, h2⟩ := (bLen_sound (w := w) h hv hx (u := type) ht').value
        refine ⟨y, ?_, h2⟩
        have e2 : c.args.map a.eval = #[cx] := by
          have : (c.args.toList.map a.eval).toArray = c.args.map a.eval := by apply Array.ext'; simp
          rw [← this, e1]
        simp only [execOp, resolve, hb, Sem.run_bind, Sem.run_pure, Result.andThen_ok, invoke, e2]
        exact h1
      · cases hv
    · cases hv
  · cases hv
end
end Go.Ev
namespace Go.Ev
open Go Go.RowKit
section
variable {E : Env} {φ φ' : Phi} {ν : Nat → Int} {B : Nat} {m : AMem} {w w' : World}
theorem VRel.vstr_inv {j : Nat} {v : Value} (h : VRel φ ν (.vstr j) v) : ∃ s, φ.val j = .string s ∧ v = .string s := by cases h; exact ⟨_, ‹_›, rfl⟩
theorem VRel.vlen_inv {j : Nat} {c : Option Nat} {v : Value} (h : VRel φ ν (.vlen j c) v) : ∃ s : ByteArray, φ.val j = .string s ∧ v = .int .i64 (cutN c s.size : Int) := by cases h; exact ⟨_, ‹_›, rfl⟩
theorem VRel.vsl_inv {id : Nat} {v : Value} (h : VRel φ ν (.vsl id) v) : ∃ L a c, φ id = some L ∧ (L.e ≠ 0 → a = ⟨L.b, L.off, none⟩) ∧ L.e ≤ c ∧ v = .slice (some a) L.e c := by cases h; exact ⟨_, _, _, ‹_›, ‹_›, ‹_›, rfl⟩
theorem VRel.vsn_inv {id : Nat} {v : Value} (h : VRel φ ν (.vsn id) v) : ∃ L, φ id = some L ∧ v = .int .i64 (L.e : Int) := by cases h; exact ⟨_, ‹_›, rfl⟩
/-- A row of which it is known how its cells begin. -/
theorem MRel.xrow (h : MRel E φ ν B m w) {id sz lo : Nat} {cs : List AV} {L : Loc} (hb : m.get id = some (.xrow cs sz lo)) (hL : φ id = some L) :
    lo ≤ L.e ∧ ∃ cc ty fz, w.heap[L.b]? = some (.cells cc ty fz) ∧ ∀ (i : Nat) a, cs[i]? = some a → i < L.e * sz → ∃ c, cc[L.off + i]? = some c ∧ VRel φ ν a c := by
  obtain ⟨o, h1, h2⟩ := h.blk id _ L hb hL
  cases h2 with
  | xrow h3 h4 => exact ⟨h3, _, _, _, h1, h4⟩
theorem xLen_sound {t : Nat} {x v : AV} (hv : xLen E t x = some v) {cx : Value} (hx : VRel φ ν x cx) {ts : Array TypeId} {u : Nat} (ht : ts[0]? = some t) : Gives E.P φ ν w (Builtin.len_ ts u #[cx]) v := by
  unfold xLen at hv
  split at hv
  · rename_i e id hu
    simp only [Option.some.injEq] at hv; subst hv
    obtain ⟨L, a, c, h1, h2, h3, rfl⟩ := hx.vsl_inv
    exact ⟨goInt L.e, by simp [Builtin.len_, ht, run_underlying hu], .vsn h1⟩
  · rename_i j hu
    simp only [Option.some.injEq] at hv; subst hv
    obtain ⟨s, h1, rfl⟩ := hx.vstr_inv
    exact ⟨goInt s.size, by simp [Builtin.len_, ht, run_underlying hu], .vlen (c := none) h1⟩
  · cases hv
theorem xMin_sound {x y v : AV} (hv : xMin x y = some v) {cx cy : Value} (hx : VRel φ ν x cx) (hy : VRel φ ν y cy) {ts : Array TypeId} {u : Nat} : Gives E.P φ ν w (Builtin.min_ ts u #[cx, cy]) v := by
  unfold xMin at hv
  split at hv
  · rename_i j c
    simp only [Option.some.injEq] at hv; subst hv
    obtain ⟨s, h1, rfl⟩ := hx.vlen_inv
    obtain rfl := hy.int_inv
    simp only [cutN]
    have e2 : (Builtin.min_ ts u #[.int .i64 (s.size : Int), .int .i64 (Int.ofNat c)]).run E.P w = .ok (.int .i64 (if (Int.ofNat c) < (s.size : Int) then Int.ofNat c else (s.size : Int))) w := by
      simp [Builtin.min_, Builtin.min2]
    refine ⟨_, e2, ?_⟩
    have : (if (Int.ofNat c) < (s.size : Int) then Int.ofNat c else (s.size : Int)) = ((min s.size c : Nat) : Int) := by
      by_cases q : c < s.size
      · rw [if_pos (by show (c : Int) < (s.size : Int); omega), Nat.min_eq_right (by omega)]; rfl
      · rw [if_neg (by show ¬ (c : Int) < (s.size : Int); omega), Nat.min_eq_left (by omega)]
    rw [this]
    exact .vlen (c := some c) h1
  · cases hv
theorem xSlice_sound {t : Nat} {x v : AV} {lo hi mx : Option AV} (hv : xSlice E t x lo hi mx = some v) {cx : Value} (hx : VRel φ ν x cx)
    {clo chi cmx : Option Value} (hlo : OVRel φ ν lo clo) (hhi : OVRel φ ν hi chi) (hmx : OVRel φ ν mx cmx) : Gives E.P φ ν w (Instr.sliceAt t cx clo chi cmx) v := by
  unfold xSlice at hv
  split at hv
  · rename_i j i c hu
    split at hv
    · rename_i hij
      have := nat_beq hij
      subst this
      simp only [Option.some.injEq] at hv; subst hv
      cases hlo
      cases hmx
      cases hhi with
      | some hh =>
      obtain ⟨s, h1, rfl⟩ := hx.vstr_inv
      obtain ⟨s', h1', rfl⟩ := hh.vlen_inv
      rw [h1] at h1'
      cases h1'
      generalize hn : cutN c s.size = n
      have hle : n ≤ s.size := by
        subst hn
        cases c with
        | none => exact Nat.le_refl _
        | some c => exact Nat.min_le_left _ _
      refine ⟨.string (s.extract 0 n), ?_, .one _ rfl⟩
      simp only [Instr.sliceAt, Instr.slice, Sem.run_bind, run_underlying hu, Result.andThen_ok, Option.isSome_none, Bool.false_eq_true, if_false, Sem.run_pure]
      have hb : (Instr.sliceBound (.int .i64 (n : Int)) s.size .sliceAlen).run E.P w = .ok n w := by
        simp only [Instr.sliceBound, Sem.run_bind, asIntOf, Sem.run_pure, Result.andThen_ok, Sem.run_ite]
        rw [if_pos ⟨by simp, by simp; omega⟩]
        rfl
      simp only [Instr.sliceBounds, Sem.run_bind, Sem.run_pure, Result.andThen_ok]
      erw [hb]
      rfl
    · cases hv
  · cases hv
theorem xIndex_sound (h : MRel E φ ν B m w) {t : Nat} {x ix v : AV} (hv : xIndex E t x ix m = some v) {cx ci : Value} (hx : VRel φ ν x cx) (hi : VRel φ ν ix ci) : Gives E.P φ ν w (Instr.indexAt t cx ci) v := by
  unfold xIndex at hv
  split at hv
  · rename_i e id ik k hu
    split at hv
    · rename_i cs sz lo size hb hsz
      obtain ⟨inf, hinf, rfl⟩ := sizeA_some hsz
      split at hv
      · rename_i h1 h2 h3
        have g1 := nat_beq h1
        have g2 := nat_beq_false h2
        have g3 := nat_blt h3
        rw [force_eq] at hv
        simp only [Option.some.injEq] at hv; subst hv
        obtain ⟨L, a, c, q1, q2, q3, rfl⟩ := hx.vsl_inv
        obtain rfl := hi.int_inv
        obtain ⟨r1, _⟩ := h.xrow hb q1
        have ha := q2 (by omega); subst ha
        have e0 : VRel φ ν (.ptr id (Nat.mul k inf.size)) (.pointer (some ⟨L.b, L.off + Nat.mul k inf.size, none⟩)) := .ptr q1
        refine ⟨.pointer (some ⟨L.b, L.off + (k * inf.size), none⟩), ?_, e0⟩
        simp only [Instr.indexAt, Sem.run_bind, asIntOf, Sem.run_pure, Result.andThen_ok, run_underlying hu, Instr.sureAddr]
        simp only [Sem.run_ite, Sem.run_bind, run_size hinf, Result.andThen_ok, Sem.run_pure]
        rw [if_pos ⟨by simp, by simp; omega⟩]; simp [addr_add, Nat.add_assoc]
      · cases hv
    · cases hv
  · cases hv
theorem xLss_sound (h : MRel E φ ν B m w) {x y v : AV} (hv : xLss x y m = some v) {cx cy : Value} (hx : VRel φ ν x cx) (hy : VRel φ ν y cy) (t : Nat) : Gives E.P φ ν w (binOp .lss t cx cy) v := by
  unfold xLss at hv
  split at hv
  · rename_i k id
    split at hv
    · rename_i cs sz lo hb
      split at hv
      · rename_i hlt
        simp only [Option.some.injEq] at hv; subst hv
        obtain ⟨L, q1, rfl⟩ := hy.vsn_inv
        obtain rfl := hx.int_inv
        obtain ⟨r1, _⟩ := h.xrow hb q1
        have g := nat_blt hlt
        refine ⟨.bool true, ?_, .bool _⟩
        simp [binOp, Op.intCmp]
        omega
      · cases hv
    · cases hv
  · cases hv
theorem xLoad_sound (h : MRel E φ ν B m w) {t : Nat} {x v : AV} (hv : xLoad E t x m = some v) {cx : Value} (hx : VRel φ ν x cx) : ∃ a, cx = .pointer (some a) ∧ Gives E.P φ ν w (loadVar t a) v := by
  unfold xLoad at hv
  split at hv
  · rename_i id off
    obtain ⟨L, hL, rfl⟩ := hx.ptr_inv
    refine ⟨_, rfl, ?_⟩
    split at hv
    · rename_i cs sz lo d n hb hd hn
      obtain ⟨inf, hinf, rfl⟩ := sizeA_some hn
      split at hv
      · rename_i h1 h2 h3
        have g1 := nat_ble h1
        have g2 := nat_ble h2
        rw [lenL_eq] at g2
        simp only [Nat.add_eq, Nat.mul_eq] at g1 g2
        obtain ⟨r1, cc, ty, fz, r2, r3⟩ := h.xrow hb hL
        have hmul : lo * sz ≤ L.e * sz := Nat.mul_le_mul_right _ r1
        have cell : ∀ (j : Nat), j < inf.size → ∃ a c, cs[off + j]? = some a ∧ w.cell? ⟨L.b, L.off + off + j, none⟩ = some c ∧ VRel φ ν a c := by
          intro j hj
          have hlt : off + j < cs.length := by omega
          obtain ⟨c, p1, p2⟩ := r3 (off + j) cs[off + j] (List.getElem?_eq_getElem hlt) (by omega)
          exact ⟨_, c, List.getElem?_eq_getElem hlt, by rw [cell_of r2, show L.off + off + j = L.off + (off + j) from by omega]; exact p1, p2⟩
        split at hv
        · rename_i hag
          simp only [Option.some.injEq] at hv; subst hv
          rw [takeL_eq, dropL_eq]
          have : ∀ (n : Nat), n ≤ inf.size → ∃ cvs : List Value, cvs.length = n ∧ LRel φ ν ((cs.drop off).take n) cvs ∧ ∀ (j : Nat) c, cvs[j]? = some c → w.cell? ⟨L.b, L.off + off + j, none⟩ = some c := by
            intro n
            induction n with
            | zero => intro _; exact ⟨[], rfl, by simpa using LRel.nil, fun j c hc => by simp at hc⟩
            | succ n ihn =>
              intro hn'
              obtain ⟨cvs, c1, c2, c3⟩ := ihn (by omega)
              obtain ⟨a, c, p1, p2, p3⟩ := cell n (by omega)
              refine ⟨cvs ++ [c], by simp [c1], ?_, fun j y hy => ?_⟩
              · have ht : (cs.drop off).take (n + 1) = (cs.drop off).take n ++ [a] := by
                  rw [List.take_add_one, List.getElem?_drop, p1]; rfl
                rw [ht]
                exact c2.append (LRel.cons p3 LRel.nil)
              · by_cases hj : j < n
                · rw [List.getElem?_append_left (by omega)] at hy; exact c3 j y hy
                · rw [List.getElem?_append_right (by omega), c1] at hy
                  have : j - n = 0 := by
                    rcases Nat.eq_zero_or_pos (j - n) with q | q
                    · exact q
                    · rw [List.getElem?_eq_none (by simp; omega)] at hy; cases hy
                  rw [this] at hy
                  simp at hy
                  subst hy
                  have : j = n := by omega
                  subst this
                  exact p2
          obtain ⟨cvs, c1, c2, c3⟩ := this inf.size (Nat.le_refl _)
          refine ⟨.agg cvs.toArray, ?_, VRel.agg' c2⟩
          have e := run_loadCells' (P := E.P) c1 c3
          simp [loadVar, run_agg hd, hag, run_size hinf, e]
        · rename_i hag
          rw [getL_eq] at hv
          have h0 : 0 < inf.size := by have := nat_beq_false h3; omega
          obtain ⟨a, c, p1, p2, p3⟩ := cell 0 h0
          rw [Nat.add_zero, hv] at p1
          cases p1
          have p2' : w.cell? ⟨L.b, L.off + off, none⟩ = some c := by simpa using p2
          exact ⟨c, by simp [loadVar, run_agg hd, hag, p2'], p3⟩
      · cases hv
    · cases hv
  · cases hv
theorem xop_sound (h : MRel E φ ν B m w) {n : Nat} {T : Tr AV} {a : Act} (hT : TRel φ ν n T a.tmps) {o : Oper} {v : AV} (hv : xop E T m o.op = some v) :
    ∃ x, (execOp a.eval o).run E.P w = .ok (.value x) w ∧ VRel φ ν v x := by
  have ev := fun x => aev_sound (a := a) h.toGRel hT x
  have eo := fun x => evO_sound (a := a) h.toGRel hT x
  have el := fun l => evAll_sound (a := a) h.toGRel hT l
  obtain ⟨dst, op, type, pos, after, guard⟩ := o
  simp only at hv
  unfold xop at hv
  split at hv
  · rename_i t x
    obtain ⟨b, hb, hg⟩ := xLoad_sound h hv (ev x)
    obtain ⟨y, h1, h2⟩ := hg
    refine ⟨y, ?_, h2⟩
    simp [execOp, Instr.loadAt, hb, Instr.sureAddr, h1]
  · exact (xIndex_sound h hv (ev _) (ev _)).value
  · rename_i op t x y u
    split at hv
    · obtain ⟨z, h1, h2⟩ := xLss_sound h hv (ev _) (ev _) t
      refine ⟨z, ?_, h2⟩
      have hg : eqGuard BinOp.lss t x y (a.eval x) (a.eval y) = pure () := by
        cases a.eval x <;> rfl
      simp [execOp, hg, h1]
    · cases hv
  · exact (xSlice_sound (w := w) hv (ev _) (eo _) (eo _) (eo _)).value
  · rename_i c
    split at hv
    · rename_i b hb
      have hl := el c.args.toList
      have conv : ∀ {l : List Value}, c.args.toList.map a.eval = l → c.args.map a.eval = l.toArray := by
        intro l e
        have : (c.args.toList.map a.eval).toArray = c.args.map a.eval := by apply Array.ext'; simp
        rw [← this, e]
      unfold xCall at hv
      split at hv
      · rename_i t r x hts hargs
        rw [hargs] at hl
        obtain ⟨cx, cr, e1, hx, hr⟩ := hl.cons_inv
        have := hr.nil_inv; subst this
        have ht' : c.argTypes[0]? = some t := by rw [← Array.getElem?_toList, hts]; rfl
        obtain ⟨y, h1, h2⟩ := (xLen_sound (w := w) hv hx (u := type) ht').value
        refine ⟨y, ?_, h2⟩
        simp only [execOp, resolve, hb, Sem.run_bind, Sem.run_pure, Result.andThen_ok, invoke, conv e1]
        exact h1
      · rename_i ts x y hargs
        rw [hargs] at hl
        obtain ⟨cx, cr, e1, hx, hr⟩ := hl.cons_inv
        obtain ⟨cy, cr', rfl, hy, hr'⟩ := hr.cons_inv
        have := hr'.nil_inv; subst this
        obtain ⟨z, h1, h2⟩ := (xMin_sound (E := E) (w := w) hv hx hy (ts := c.argTypes) (u := type)).value
        refine ⟨z, ?_, h2⟩
        simp only [execOp, resolve, hb, Sem.run_bind, Sem.run_pure, Result.andThen_ok, invoke, conv e1]
        exact h1
      · cases hv
    · cases hv
  · cases hv
theorem rop_sound (h : MRel E φ ν B m w) {n : Nat} {T : Tr AV} {a : Act} (hT : TRel φ ν n T a.tmps) {o : Oper} {v : AV} (hv : rop E T m o.op = some v) :
    ∃ x, (execOp a.eval o).run E.P w = .ok (.value x) w ∧ VRel φ ν v x := by
  unfold rop at hv
  split at hv
  · rename_i v' h0
    simp only [Option.some.injEq] at hv
    subst hv
    exact rop0k_sound h hT h0
  · exact xop_sound h hT hv
end
end Go.Ev
