/-
  Operations that change memory are sound.
-/
import Derived.Maps.RangeRun
import Derived.Laws.AppendOwn
import Derived.Lib.UnsafeStr
import Derived.Test.YtebegohhjdllpaaGreatDoorEvE
set_option linter.unusedVariables false
set_option linter.unusedSimpArgs false
namespace Go.Ev
open Go Go.RowKit
section
variable {E : Env} {φ φ' : Phi} {ν : Nat → Int} {w w' : World} {B : Nat} {m m' : AMem}
/-- What holds behind an operation that gave v. -/
def After (E : Env) (φ : Phi) (ν : Nat → Int) (B : Nat) (w : World) (v : AV) (m' : AMem) (x : Value) (w' : World) : Prop :=
  ∃ φ', Ext φ φ' ∧ MRel E φ' ν B m' w' ∧ Below B w w' ∧ VRel φ' ν v x
/-- The operation's own run gives the value; or it enters a function that does. -/
def ValOk (P : Program) (w : World) (r : Result Next) (Q : Value → World → Prop) : Prop :=
  (∃ x w', (r = .ok (.value x) w' ∨ (r = .ok .skip w' ∧ x = undef)) ∧ Q x w') ∨
  ∃ f cargs, r = .ok (.enter f cargs) w ∧ Calls P f cargs w (fun e w' => ∃ x, e = .returned x ∧ Q x w')
def ResOk (E : Env) (φ : Phi) (ν : Nat → Int) (B : Nat) (m : AMem) (w : World) (r : Result Next) : ARes → Prop
  | .val v m' => ValOk E.P w r (After E φ ν B w v m')
  | .enter f args m' => ∃ cargs : List Value, r = .ok (.enter f cargs.toArray) w ∧ LRel φ ν args cargs ∧ m' = m
  | .round l args m' => ∃ L, ∃ cargs : List Value, φ l = some L ∧ r = (Instr.yield L.b cargs.toArray).run E.P w ∧ LRel φ ν args cargs ∧ m' = m
  | .defer d => ∃ D, r = .ok (.defer D) w ∧ DRel φ ν d D
  | .recover => r = .ok .recover w
  | .panic v m' => ∃ x, r = .halt (.panic x) w ∧ VRel φ ν v x ∧ m' = m
  | .choose alts => ∃ i : Nat, ∃ v m' x w', alts[i]? = some (v, m') ∧ r = .ok (.value x) w' ∧ After E φ ν B w v m' x w'
  | .fail => True
theorem leaves_mem : ∀ {l : List AV}, leaves l = true → ∀ a ∈ l, leafB a = true := by
  intro l
  induction l with
  | nil => intro _ a h; cases h
  | cons b l ih =>
    intro h a ha
    have h' : (match leafB b with | true => leaves l | false => false) = true := h
    split at h'
    · rename_i hb
      cases ha with
      | head => exact hb
      | tail _ ha => exact ih h' a ha
    · cases h'
theorem leaf_oneCell {a : AV} (h : leafB a = true) {v : Value} (hv : VRel φ ν a v) : v.oneCell' = true := by
  cases hv <;> first | rfl | assumption | (simp [leafB] at h; done)
/-- A row of cells, stored. -/
theorem run_storeCells' (P : Program) (b o : Nat) (ty : TypeId) (fz : Nat × Nat) : ∀ (vs : List Value) (i : Nat) (cur : Array Value) (w : World), w.heap[b]? = some (.cells cur ty fz) → o + i + vs.length ≤ cur.size →
    (∀ v ∈ vs, v.oneCell' = true) → (∀ j, i ≤ j → j < i + vs.length → ¬ (fz.1 ≤ o + j ∧ o + j < fz.2)) →
    ∃ w' new, (storeCells ⟨b, o, none⟩ vs i).run P w = .ok () w' ∧ w'.heap[b]? = some (.cells new ty fz) ∧ new.size = cur.size ∧
      (∀ k, new[k]? = if o + i ≤ k ∧ k < o + i + vs.length then vs[k - (o + i)]? else cur[k]?) ∧
      w'.heap.size = w.heap.size ∧ (∀ k, k ≠ b → w'.heap[k]? = w.heap[k]?) ∧ w'.os = w.os ∧ w'.tape = w.tape ∧ w'.output = w.output := by
  intro vs
  induction vs with
  | nil =>
    intro i cur w h1 _ _ _
    exact ⟨w, cur, by simp [storeCells], h1, rfl, fun k => by rw [if_neg (by simp)], rfl, fun _ _ => rfl, rfl, rfl, rfl⟩
  | cons v vs ih =>
    intro i cur w h1 h2 h3 h4
    simp only [List.length_cons] at h2 h4
    have hc : w.cell? ⟨b, o + i, none⟩ = cur[o + i]? := cell_of h1
    have hlt : o + i < cur.size := by omega
    rw [Array.getElem?_eq_getElem hlt] at hc
    have hf : w.frozen? ⟨b, o + i, none⟩ = false := by
      simp only [World.frozen?, h1]
      have := h4 i (Nat.le_refl _) (by omega)
      simp only [Bool.and_eq_false_iff, decide_eq_false_iff_not]
      by_cases q : fz.1 ≤ o + i
      · right; intro q2; exact this ⟨q, q2⟩
      · left; exact q
    have hb1 : (w.setCell ⟨b, o + i, none⟩ v).heap[b]? = some (.cells (cur.setIfInBounds (o + i) v) ty fz) := by
      simp [World.setCell, Array.getElem?_modify, h1]
    obtain ⟨w', new, r1, r2, r3, r4, r5, r6, r7, r8, r9⟩ := ih (i + 1) (cur.setIfInBounds (o + i) v) (w.setCell ⟨b, o + i, none⟩ v) hb1 (by simp; omega) (fun x hx => h3 x (by simp [hx])) (fun j a c => h4 j (by omega) (by omega))
    refine ⟨w', new, ?_, r2, by rw [r3]; simp, ?_, by rw [r5]; simp [World.setCell], ?_, by rw [r7]; rfl, by rw [r8]; rfl, by rw [r9]; rfl⟩
    · have hs := run_store P w ⟨b, o + i, none⟩ v .plain (h3 v (by simp))
      rw [hc] at hs
      simp only [hf, Bool.false_eq_true, if_false] at hs
      simp only [storeCells, addr_add, Sem.run_bind, hs, Result.andThen_ok]
      exact r1
    · intro k
      rw [r4]
      simp only [List.length_cons]
      by_cases q1 : o + i = k
      · subst q1
        rw [if_neg (by omega), if_pos (by omega)]
        simp [hlt]
      · by_cases q2 : o + (i + 1) ≤ k ∧ k < o + (i + 1) + vs.length
        · rw [if_pos q2, if_pos (by omega), show k - (o + i) = (k - (o + (i + 1))) + 1 from by omega]
          simp
        · rw [if_neg q2, if_neg (by omega), Array.getElem?_setIfInBounds_ne q1]
    · intro k hk
      rw [r6 k hk]
      simp only [World.setCell, Array.getElem?_modify]
      rw [if_neg (fun e => hk e.symm)]
theorem thawed_sound {L : Loc} {lo hi off n : Nat} (h : thawed lo hi off n = true) {fz : Nat × Nat} (hf : FzRel L lo hi fz) (hle : off + n ≤ L.e) : ∀ j, j < n → ¬ (fz.1 ≤ L.off + off + j ∧ L.off + off + j < fz.2) := by
  intro j hj ⟨q1, q2⟩
  obtain ⟨h1, h2⟩ := hf.1 (off + j) (by omega) (by omega) (by omega)
  unfold thawed at h
  split at h
  · rename_i q; have := nat_ble q; omega
  · split at h
    · rename_i q; have := nat_ble q; simp only [Nat.add_eq] at this; omega
    · have := nat_ble h; omega
/-- Cells of a block, stored: the model's side. -/
theorem storeN_sound (h : MRel E φ ν B m w) {id off : Nat} {vs : List AV} {cvs : List Value} (hs : storeN m id off vs = some m') (hv : LRel φ ν vs cvs) {L : Loc} (hL : φ id = some L) :
    ∃ w', (storeCells ⟨L.b, L.off + off, none⟩ cvs).run E.P w = .ok () w' ∧ MRel E φ ν B m' w' ∧ Below B w w' := by
  unfold storeN at hs
  split at hs
  · rename_i cs ty ext lo hi hb
    split at hs
    · rename_i h1 h2 h3
      simp only [Option.some.injEq] at hs; subst hs
      have hle := nat_ble h1
      rw [lenL_eq, lenL_eq] at hle
      simp only [Nat.add_eq] at hle
      rw [lenL_eq] at h2
      obtain ⟨cc, fz, c1, c2, c3, c4, c5, c6⟩ := h.cells hb hL
      have hlen : vs.length = cvs.length := hv.1
      have hth := thawed_sound h2 c6 (by omega)
      have hone : ∀ v ∈ cvs, v.oneCell' = true := by
        intro v hm
        obtain ⟨i, hi, rfl⟩ := List.getElem_of_mem hm
        have hi' : i < vs.length := by omega
        exact leaf_oneCell (leaves_mem h3 vs[i] (List.getElem_mem hi')) (hv.2 i _ _ (List.getElem?_eq_getElem hi') (List.getElem?_eq_getElem hi))
      obtain ⟨w', new, r1, r2, r3, r4, r5, r6, r7, r8, r9⟩ := run_storeCells' E.P L.b (L.off + off) ty fz cvs 0 cc w c1 (by omega) hone (fun j _ q => by rw [← hlen] at q; exact hth j (by omega))
      refine ⟨w', r1, ?_, ⟨r7, r8, r9, by omega, fun k hk => r6 k (by have := h.own id _ L hb hL rfl; omega)⟩⟩
      refine h.set hb hL r5 r2 ?_ r6 rfl
      have hsl : (setCells cs off vs).length = cs.length := by
        rw [setCells_eq]; simp; omega
      refine .cells (by rw [hsl]; exact c2) (by rw [r3]; exact c3) (fun e => ?_) ?_ c6
      · obtain ⟨q1, q2, q3⟩ := c4 e
        exact ⟨q1, by rw [hsl]; exact q2, by rw [r3, hsl]; exact q3⟩
      · intro i a ha
        rw [setCells_eq] at ha
        rw [r4]
        simp only [Nat.add_zero]
        by_cases q1 : i < off
        · rw [List.getElem?_append_left (by simp; omega), List.getElem?_take, if_pos q1] at ha
          rw [if_neg (by omega)]
          exact c5 i a ha
        · by_cases q2 : i < off + vs.length
          · rw [List.getElem?_append_right (by simp; omega), List.getElem?_append_left (by simp; omega)] at ha
            rw [if_pos (by omega)]
            have e : i - (cs.take off).length = i - off := by simp; omega
            rw [e] at ha
            obtain ⟨c, hc, hvc⟩ := hv.get ha
            exact ⟨c, by rw [show L.off + i - (L.off + off) = i - off from by omega]; exact hc, hvc⟩
          · rw [List.getElem?_append_right (by simp; omega), List.getElem?_append_right (by simp; omega), List.getElem?_drop] at ha
            rw [if_neg (by omega)]
            have e : off + vs.length + (i - (cs.take off).length - vs.length) = i := by simp; omega
            rw [e] at ha
            exact c5 i a ha
    · cases hs
  · cases hs
theorem opStore_sound (h : MRel E φ ν B m w) {t : Nat} {x y : AV} {cx cy : Value} (hx : VRel φ ν x cx) (hy : VRel φ ν y cy) :
    ResOk E φ ν B m w ((do Instr.storeAt t cx cy; pure .skip : Sem Next).run E.P w) (opStore E t x y m) := by
  unfold opStore
  split
  · rename_i id off
    obtain ⟨L, hL, rfl⟩ := hx.ptr_inv
    split
    · rename_i n hn hk
      obtain ⟨inf, hinf, rfl⟩ := sizeA_some hn
      split
      · rename_i hsz
        split
        · rename_i m' hm
          have hc := hy.cells hk
          obtain ⟨w', r1, r2, r3⟩ := storeN_sound h hm hc hL
          refine .inl ⟨undef, w', .inr ⟨?_, rfl⟩, φ, Ext.refl φ, r2, r3, .any _⟩
          have l1 := nat_beq hsz
          rw [lenL_eq, hc.1] at l1
          simp only [Instr.storeAt, Instr.sureAddr, storeVar, Sem.run_bind, Sem.run_pure, Result.andThen_ok, run_size hinf, Sem.run_ite]
          rw [if_neg (by simp at l1; omega)]
          rw [r1]; rfl
        · trivial
      · trivial
    · trivial
  · trivial
end
end Go.Ev
namespace Go.Ev
open Go Go.RowKit
section
variable {E : Env} {φ φ' : Phi} {ν : Nat → Int} {w w' : World} {B : Nat} {m m' : AMem}
theorem run_setObj' {P : Program} {b : Nat} {o o' : Obj} (h : w.heap[b]? = some o) (hc : ∀ c t f, o ≠ .cells c t f) : (setObj b o').run P w = .ok () { w with heap := w.heap.setIfInBounds b o' } := by
  cases o <;> first
    | (exact absurd rfl (hc _ _ _))
    | simp [setObj, Sem.run, h]
theorem sameBits_leaf {a : AV} (h : keyLeaf a = true) {v : Value} (hv : VRel φ ν a v) (n : Nat) : Instr.sameBits n v v = true := by
  cases a <;> first
    | (simp [keyLeaf] at h; done)
    | skip
  · rw [hv.bool_inv]; cases n <;> simp [Instr.sameBits]
  · rw [hv.int_inv]; cases n <;> simp [Instr.sameBits]
  · obtain ⟨s, rfl, _⟩ := hv.str_inv; cases n <;> simp [Instr.sameBits, beq_toListBytes]
theorem sameBits_zip (n : Nat) : ∀ {as : List AV} {cs : List Value}, keyAll as = true → LRel φ ν as cs → ((cs.zip cs).all fun (x, y) => Instr.sameBits n x y) = true := by
  intro as
  induction as with
  | nil => intro cs _ h; rw [h.nil_inv]; rfl
  | cons a as ih =>
    intro cs hk h
    unfold keyAll at hk
    split at hk
    · rename_i hl
      obtain ⟨c, cs1, rfl, hc, ht⟩ := h.cons_inv
      simp only [List.zip_cons_cons, List.all_cons, sameBits_leaf hl hc, ih hk ht, Bool.and_true]
    · cases hk
theorem sameBits_key {a : AV} (h : keyOk a = true) {v : Value} (hv : VRel φ ν a v) (n : Nat) : Instr.sameBits (n + 1) v v = true := by
  unfold keyOk at h
  split at h
  · obtain ⟨cs, rfl, h1⟩ := hv.agg_inv
    simp only [Instr.sameBits, beq_self_eq_true, Bool.true_and]
    exact sameBits_zip n h h1
  · exact sameBits_leaf h hv _
theorem findA_key {kt : Nat} {k v : AV} : ∀ {es : List AEnt} {i j : Nat}, findA E.P kt k es i = .at j v → ∃ n e, j = i + n ∧ es[n]? = some e ∧ eqKey k e.key = true ∧ keyOk e.key = true := by
  intro es
  induction es with
  | nil => intro i j h; simp [findA] at h
  | cons e es ih =>
    intro i j h
    unfold findA at h
    split at h
    · rename_i ho he
      split at h
      · rename_i hq
        simp only [Found.at.injEq] at h
        exact ⟨0, e, by omega, rfl, hq, ho⟩
      · cases h
    · obtain ⟨n, e', h1, h2, h3, h4⟩ := ih h
      simp only [Nat.add_eq] at h1
      exact ⟨n + 1, e', by omega, by simpa using h2, h3, h4⟩
    · cases h
theorem EsRel.get {es : List AEnt} {cs : List MapEntry} (h : EsRel φ ν es cs) : ∀ {n : Nat} {e : AEnt}, es[n]? = some e → ∃ c, cs[n]? = some c ∧ VRel φ ν e.key c.key ∧ VRel φ ν e.val c.val ∧ e.born = c.born := by
  induction h with
  | nil => intro n e h; simp at h
  | @cons e c es cs h1 h2 h3 _ ih =>
    intro n e' h
    cases n with
    | zero => simp at h; subst h; exact ⟨c, rfl, h1, h2, h3⟩
    | succ n => obtain ⟨c', q1, q2⟩ := ih (by simpa using h); exact ⟨c', by simpa using q1, q2⟩
theorem EsRel.snoc {es : List AEnt} {cs : List MapEntry} (h : EsRel φ ν es cs) {e : AEnt} {c : MapEntry} (h1 : VRel φ ν e.key c.key) (h2 : VRel φ ν e.val c.val) (h3 : e.born = c.born) : EsRel φ ν (es ++ [e]) (cs ++ [c]) := by
  induction h with
  | nil => exact .cons h1 h2 h3 .nil
  | cons a b c _ ih => exact .cons a b c ih
theorem EsRel.setEnt {es : List AEnt} {cs : List MapEntry} (h : EsRel φ ν es cs) {k v : AV} {ck cv : Value} (h1 : VRel φ ν k ck) (h2 : VRel φ ν v cv) : ∀ i, EsRel φ ν (setEnt i k v es) (cs.modify i fun e => { e with key := ck, val := cv }) := by
  induction h with
  | nil => intro i; simp [Go.Ev.setEnt]; exact .nil
  | @cons e c es cs a b d hr ih =>
    intro i
    cases i with
    | zero => exact .cons h1 h2 d hr
    | succ i => exact .cons a b d (ih i)
theorem Below.setB (h : MRel E φ ν B m w) {id : Nat} {b : ABlk} {L : Loc} (hb : m.get id = some b) (hl : φ id = some L) (hw : wr b = true) (o : Obj) : Below B w { w with heap := w.heap.setIfInBounds L.b o } := by
  have := h.own id b L hb hl hw
  refine ⟨rfl, rfl, rfl, by simp, fun k hk => ?_⟩
  simp only []
  rw [Array.getElem?_setIfInBounds_ne (by omega)]
theorem MRel.setB (h : MRel E φ ν B m w) {id : Nat} {b x : ABlk} {L : Loc} {o : Obj} (hb : m.get id = some b) (hl : φ id = some L) (hw : wr b = true) (hx : BObj φ ν x L o) : MRel E φ ν B (m.set id (some x)) { w with heap := w.heap.setIfInBounds L.b o } := by
  have := h.lt id L hl
  exact h.set hb hl (by simp) (by simp [this]) hx (fun k hk => by simp only []; rw [Array.getElem?_setIfInBounds_ne (fun e => hk e.symm)]) hw
theorem opMapUpdate_sound (h : MRel E φ ν B m w) {t : Nat} {x k v : AV} {cx ck cv : Value} (hx : VRel φ ν x cx) (hk : VRel φ ν k ck) (hv : VRel φ ν v cv) :
    ResOk E φ ν B m w ((do Instr.mapUpdate t cx ck cv; pure .skip : Sem Next).run E.P w) (opMapUpdate E t x k v m) := by
  unfold opMapUpdate
  split
  · rename_i kt et id hu
    obtain ⟨L, hL, rfl⟩ := hx.map_inv
    split
    · rename_i es clock hfit hb
      obtain ⟨ces, h1, h2⟩ := h.map hb hL
      unfold keyFit at hfit
      split at hfit
      · rename_i hty
        have hck := checkedA_sound (emp := false) eqD 10000 (by decide) kt k ck w hfit hk
        unfold keyTyped at hty
        split at hty
        · rename_i hko hkk
          have hud : ∃ td, E.P.underlying kt = some td := by
            cases hq : E.P.underlying kt with
            | some td => exact ⟨td, rfl⟩
            | none => simp [eqA, eqD, hq] at hkk
          obtain ⟨td, htd⟩ := hud
          have hfs : findA E.P kt k es 0 ≠ .bad → _ := fun hb => findKey_sound (w := w) htd hk h2 hb
          split
          · rename_i hf
            obtain ⟨r, r1, r2⟩ := hfs (by rw [hf]; simp)
            rw [hf] at r2
            have r2' : r = none := r2
            subst r2'
            refine .inl ⟨undef, { w with heap := w.heap.setIfInBounds L.b (.map (ces.push { key := ck, val := cv, born := clock }) (clock + 1)) }, .inr ⟨?_, rfl⟩, φ, Ext.refl φ, ?_, Below.setB h hb hL rfl _, .any _⟩
            · simp only [Instr.mapUpdate, Sem.run_bind, run_underlying hu, Result.andThen_ok, run_getObj_map h1, hck, r1, run_setObj' h1 (by simp), Sem.run_pure]
            · refine h.setB hb hL rfl ?_
              rw [appL_eq]
              refine .map ?_
              rw [Array.toList_push]
              exact h2.snoc hk hv rfl
          · rename_i i v0 hf
            obtain ⟨r, r1, r2⟩ := hfs (by rw [hf]; simp)
            rw [hf] at r2
            obtain ⟨c, n, rfl, _⟩ := r2
            obtain ⟨n', e, q1, q2, q3, q4⟩ := findA_key hf
            have q1' : n' = i := by omega
            subst q1'
            obtain ⟨ce, s1, s2, s3, s4⟩ := h2.get q2
            have hke := eqKey_eq q3
            have hcc : ce.key = ck := key_unique q4 s2 (hke ▸ hk)
            have hst : (Instr.keyThatStays (((ces[n']?).map (·.key)).getD ck) ck).run E.P w = .ok ck w := by
              have : ces[n']? = some ce := by rw [← Array.getElem?_toList]; exact s1
              rw [this]
              simp only [Option.map_some, Option.getD_some, hcc, Instr.keyThatStays]
              rw [if_pos (sameBits_key (hke ▸ q4) hk 9999)]
              rfl
            refine .inl ⟨undef, { w with heap := w.heap.setIfInBounds L.b (.map (ces.modify n' fun e => { e with key := ck, val := cv }) clock) }, .inr ⟨?_, rfl⟩, φ, Ext.refl φ, ?_, Below.setB h hb hL rfl _, .any _⟩
            · simp only [Instr.mapUpdate, Sem.run_bind, run_underlying hu, Result.andThen_ok, run_getObj_map h1, hck, r1, hst, run_setObj' h1 (by simp), Sem.run_pure]
            · refine h.setB hb hL rfl (.map ?_)
              rw [Array.toList_modify]
              exact h2.setEnt hk hv n'
          · trivial
        · cases hty
      · cases hfit
    · trivial
  · trivial
end
end Go.Ev
namespace Go.Ev
open Go Go.RowKit
section
variable {E : Env} {φ φ' : Phi} {ν : Nat → Int} {w w' : World} {B : Nat} {m m' : AMem}
/-- A new block, laid. -/
theorem Pushed.after (h : MRel E φ ν B m w) {o : Obj} (hp : Pushed w w' o) {L : Loc} (hL : L.b = w.heap.size) {b : ABlk} (hb : BObj φ ν b L o) {a : AV} {v : Value}
    (hv : ∀ φ' : Phi, φ' m.next = some L → Ext φ φ' → VRel φ' ν a v) : After E φ ν B w a (m.push b) v w' := by
  have hx := h.ext_put L
  exact ⟨φ.put m.next L, hx, (h.push hL (hb.mono hx)).heap (by rw [hp.heap]; rfl), hp.below h.base, hv _ (Phi.put_self _ _ _) hx⟩
theorem run_newObj (P : Program) (w : World) (o : Obj) : (newObj o).run P w = .ok w.heap.size (w.alloc o) := rfl
theorem opRange_sound (h : MRel E φ ν B m w) {t : Nat} {x : AV} {cx : Value} (hx : VRel φ ν x cx) :
    ResOk E φ ν B m w ((do pure (.value (← Instr.range t cx)) : Sem Next).run E.P w) (opRange E t x m) := by
  unfold opRange
  split
  · rename_i s hu
    obtain ⟨cs, rfl, rfl⟩ := hx.str_inv
    rw [AMem.new_eq]
    refine .inl ⟨.pointer (some ⟨w.heap.size, 0, none⟩), w.alloc (.stringIter cs 0), .inl ?_, ?_⟩
    · simp only [Instr.range, Sem.run_bind, run_underlying hu, Result.andThen_ok, Sem.run_pure, run_newObj]
    · exact Pushed.after h (Pushed.alloc _ _) (L := ⟨w.heap.size, 0, 0⟩) rfl (.siter rfl) (fun φ' hi _ => VRel.ptr (off := 0) hi)
  · rename_i kt et hu
    obtain rfl := hx.nilMap_inv
    rw [AMem.new_eq]
    refine .inl ⟨.pointer (some ⟨w.heap.size, 0, none⟩), w.alloc (.mapIter none 0 #[] 0), .inl ?_, ?_⟩
    · simp only [Instr.range, Sem.run_bind, run_underlying hu, Result.andThen_ok, Sem.run_pure, run_newObj]
    · exact Pushed.after h (Pushed.alloc _ _) (L := ⟨w.heap.size, 0, 0⟩) rfl (.miterN (seen := []) rfl) (fun φ' hi _ => VRel.ptr (off := 0) hi)
  · rename_i kt et id hu
    obtain ⟨L, hL, rfl⟩ := hx.map_inv
    split
    · rename_i es clock hb
      obtain ⟨ces, h1, h2⟩ := h.map hb hL
      rw [AMem.new_eq]
      refine .inl ⟨.pointer (some ⟨w.heap.size, 0, none⟩), w.alloc (.mapIter (some L.b) clock #[] clock), .inl ?_, ?_⟩
      · simp only [Instr.range, Sem.run_bind, run_underlying hu, Result.andThen_ok, Sem.run_pure, run_newObj, run_getObj_map h1]
      · exact Pushed.after h (Pushed.alloc _ _) (L := ⟨w.heap.size, 0, 0⟩) rfl (.miterS (seen := []) rfl hL) (fun φ' hi _ => VRel.ptr (off := 0) hi)
    · trivial
  · trivial
theorem memN_iff (n : Nat) : ∀ l : List Nat, memN n l = l.contains n := by
  intro l
  induction l with
  | nil => rfl
  | cons a l ih =>
    show (match Nat.beq n a with | true => true | false => memN n l) = _
    rw [List.contains_cons]
    cases h : Nat.beq n a with
    | true => have := nat_beq h; subst this; simp
    | false =>
      have := nat_beq_false h
      show memN n l = _
      rw [ih]
      simp only [beq_eq_false_iff_ne.2 this, Bool.false_or]
theorem leftA_rel {seen : List Nat} {es : List AEnt} {cs : List MapEntry} (h : EsRel φ ν es cs) : EsRel φ ν (leftA seen es) (cs.filter fun e => !seen.contains e.born) := by
  induction h with
  | nil => exact .nil
  | @cons e c es cs h1 h2 h3 _ ih =>
    unfold leftA
    rw [memN_iff, h3]
    cases hq : seen.contains c.born with
    | true => simp only [List.filter_cons, hq, Bool.not_true, Bool.false_eq_true, if_false]; exact ih
    | false => simp only [List.filter_cons, hq, Bool.not_false, if_true]; exact .cons h1 h2 h3 ih
theorem allOld_rel {since : Nat} {es : List AEnt} {cs : List MapEntry} (h : EsRel φ ν es cs) (ho : allOld since es = true) : ∀ x ∈ cs, x.born < since := by
  induction h with
  | nil => intro x hx; cases hx
  | @cons e c es cs h1 h2 h3 _ ih =>
    unfold allOld at ho
    split at ho
    · rename_i hb
      intro x hx
      cases hx with
      | head => have := nat_blt hb; omega
      | tail _ hx => exact ih ho x hx
    · cases ho
theorem EsRel.mem {es : List AEnt} {cs : List MapEntry} (h : EsRel φ ν es cs) {c : MapEntry} (hc : c ∈ cs) : ∃ (n : Nat) (e : AEnt), es[n]? = some e ∧ VRel φ ν e.key c.key ∧ VRel φ ν e.val c.val ∧ e.born = c.born := by
  induction h with
  | nil => cases hc
  | @cons e c' es cs h1 h2 h3 _ ih =>
    cases hc with
    | head => exact ⟨0, e, rfl, h1, h2, h3⟩
    | tail _ hc => obtain ⟨n, e', q1, q2⟩ := ih hc; exact ⟨n + 1, e', by simpa using q1, q2⟩
theorem nextAlts_get {r id since : Nat} {seen : List Nat} {clock : Nat} : ∀ {l : List AEnt} {n : Nat} {e : AEnt}, l[n]? = some e →
    (nextAlts r id since seen clock m l)[n]? = some (.tup [.bool true, e.key, e.val], m.set r (some (.miter (some id) since (appL seen [e.born]) clock))) := by
  intro l
  induction l with
  | nil => intro n e h; simp at h
  | cons a l ih =>
    intro n e h
    cases n with
    | zero => simp at h; subst h; rfl
    | succ n => simp only [nextAlts, List.getElem?_cons_succ]; exact ih (by simpa using h)
theorem bytesOf_get {s : ByteArray} {pos b : Nat} (h : getL pos (bytesOf s) = some b) : pos < s.size ∧ (s.get! pos).toNat = b := by
  rw [getL_eq] at h
  simp only [bytesOf, List.getElem?_map] at h
  cases h' : s.data.toList[pos]? with
  | none => rw [h'] at h; cases h
  | some u =>
    rw [h'] at h
    simp only [Option.map_some, Option.some.injEq] at h
    have hlt : pos < s.data.size := by
      rcases Nat.lt_or_ge pos s.data.toList.length with q | q
      · simpa using q
      · rw [List.getElem?_eq_none q] at h'; cases h'
    refine ⟨hlt, ?_⟩
    rw [Array.getElem?_toList, Array.getElem?_eq_getElem hlt, Option.some.injEq] at h'
    rw [← h, ← h']
    show (s.data[pos]!).toNat = _
    rw [getElem!_pos s.data pos hlt]
theorem bytesOf_none {s : ByteArray} {pos : Nat} (h : getL pos (bytesOf s) = none) : ¬ pos < s.size := by
  rw [getL_eq, List.getElem?_eq_none_iff] at h
  simp only [bytesOf, List.length_map, Array.length_toList] at h
  show ¬ pos < s.data.size
  omega
theorem dropN_mem {n : Nat} : ∀ {l : List Nat} {b : Nat}, b ∈ dropN n l ↔ b ∈ l ∧ b ≠ n := by
  intro l
  induction l with
  | nil => intro b; exact ⟨fun h => (by cases h), fun h => (by cases h.1)⟩
  | cons a l ih =>
    intro b
    show b ∈ (match Nat.beq a n with | true => dropN n l | false => a :: dropN n l) ↔ _
    cases h : Nat.beq a n with
    | true =>
      have := nat_beq h
      subst this
      simp only [List.mem_cons]
      rw [ih]
      exact ⟨fun q => ⟨.inr q.1, q.2⟩, fun q => ⟨q.1.resolve_left q.2, q.2⟩⟩
    | false =>
      have hne := nat_beq_false h
      simp only [List.mem_cons]
      rw [ih]
      constructor
      · rintro (rfl | q)
        · exact ⟨.inl rfl, hne⟩
        · exact ⟨.inr q.1, q.2⟩
      · rintro ⟨rfl | q, q2⟩
        · exact .inl rfl
        · exact .inr ⟨q, q2⟩
theorem memN_mem (n : Nat) (l : List Nat) : memN n l = true ↔ n ∈ l := by rw [memN_iff]; simp
/-- The alternative of an entry that is still to come. -/
theorem nextAltsW_get {r id since clock k : Nat} {must gone : List Nat} {e : AEnt} : ∀ {l : List AEnt}, e ∈ l → e.born ∉ gone →
    ∃ j : Nat, (nextAltsW r id since clock must gone k m l)[j]? = some (.tup [.bool true, e.key, e.val], m.set r (some (match memN e.born must with
        | true => .miterW id since clock (some e.born) (dropN e.born must) (e.born :: gone) k
        | false => .miterW id since clock (some e.born) must gone k))) := by
  intro l
  induction l with
  | nil => intro h; cases h
  | cons a l ih =>
    intro h hg
    unfold nextAltsW
    cases hq : memN a.born gone with
    | true =>
      simp only
      cases h with
      | head => exact absurd ((memN_mem _ _).1 hq) hg
      | tail _ h => exact ih h hg
    | false =>
      simp only
      cases h with
      | head => exact ⟨0, rfl⟩
      | tail _ h => obtain ⟨j, hj⟩ := ih h hg; exact ⟨j + 1, by simpa using hj⟩
theorem keepB_mem {b : Nat} {e : AEnt} : ∀ {es : List AEnt}, e ∈ es → e.born = b → e ∈ keepB b es := by
  intro es
  induction es with
  | nil => intro h; cases h
  | cons a es ih =>
    intro h hb
    unfold keepB
    cases h with
    | head =>
      have : Nat.beq e.born b = true := by rw [hb]; exact Nat.beq_refl b
      rw [this]; exact .head _
    | tail _ h =>
      split
      · exact .tail _ (ih h hb)
      · exact ih h hb
theorem bornSeq_spec {n : Nat} : ∀ {es : List AEnt} {i : Nat}, bornSeq i n es = true → es.map (·.born) = List.range' i (n - i) ∧ i ≤ n := by
  intro es
  induction es with
  | nil => intro i h; have := nat_beq h; subst this; simp
  | cons e es ih =>
    intro i h
    unfold bornSeq at h
    split at h
    · rename_i hb
      obtain ⟨q1, q2⟩ := ih h
      simp only [Nat.add_eq] at q1 q2
      have hs : n - i = (n - (i + 1)) + 1 := by omega
      refine ⟨?_, by omega⟩
      rw [List.map_cons, q1, hs, List.range'_succ, nat_beq hb]
    · cases h
theorem EsRel.borns {es : List AEnt} {cs : List MapEntry} (h : EsRel φ ν es cs) : es.map (·.born) = cs.map (·.born) := by
  induction h with
  | nil => rfl
  | cons _ _ h3 _ ih => simp only [List.map_cons, h3, ih]
/-- As many as there are, none twice: all. -/
theorem full_of_nodup : ∀ {n : Nat} {l : List Nat}, l.Nodup → (∀ b ∈ l, b < n) → l.length = n → ∀ b, b < n → b ∈ l := by
  intro n l hnd hlt hlen b hb
  rcases Classical.em (b ∈ l) with h | h
  · exact h
  · exfalso
    have hnd' : (b :: l).Nodup := List.nodup_cons.2 ⟨h, hnd⟩
    have hsub : ∀ x ∈ b :: l, x ∈ List.range n := by
      intro x hx
      rw [List.mem_range]
      cases hx with
      | head => exact hb
      | tail _ hx => exact hlt x hx
    have := List.Nodup.length_le_of_subset hnd' hsub
    simp at this
    omega
theorem opNext_sound (h : MRel E φ ν B m w) {it : AV} {s : Bool} {ty : Nat} {cx : Value} (hx : VRel φ ν it cx) :
    ResOk E φ ν B m w ((do pure (.value (← Instr.next cx s ty)) : Sem Next).run E.P w) (opNext it s m) := by
  unfold opNext
  split
  · rename_i r
    obtain ⟨L, hL, rfl⟩ := hx.ptr_inv
    split
    · rename_i bs pos hb
      obtain ⟨o, h1, h2⟩ := h.blk r _ L hb hL
      cases h2 with
      | @siter s _ _ h0 =>
        split
        · rename_i hg
          refine .inl ⟨.tuple #[.bool false], w, .inl ?_, φ, Ext.refl φ, h, Below.refl _ _, VRel.tup' (cs := [.bool false]) (.cons (.bool _) .nil)⟩
          have := bytesOf_none hg
          simp only [Instr.next, h0, Nat.zero_add, Sem.run_bind, run_getObj_other h1 (by simp), Result.andThen_ok, this, if_false, Sem.run_pure]
        · rename_i b hg
          obtain ⟨g1, g2⟩ := bytesOf_get hg
          split
          · rename_i hlt
            have hlt' := nat_blt hlt
            have hd : Utf8.decode s pos = (b, 1) := by
              simp only [Utf8.decode, Nat.add_zero, g2]
              rw [if_pos hlt']
            refine .inl ⟨.tuple #[.bool true, goInt pos, .int .i32 b], { w with heap := w.heap.setIfInBounds L.b (.stringIter s (pos + 1)) }, .inl ?_, φ, Ext.refl φ, h.setB hb hL rfl (.siter h0), Below.setB h hb hL rfl _,
              VRel.tup' (cs := [.bool true, goInt pos, .int .i32 b]) (.cons (.bool _) (.cons (.int _ _) (.cons (.int _ _) .nil)))⟩
            simp only [Instr.next, h0, Nat.zero_add, Sem.run_bind, run_getObj_other h1 (by simp), Result.andThen_ok, g1, if_true, hd, run_setObj' h1 (by simp), Sem.run_pure]
          · trivial
    · trivial
  · rename_i r
    obtain ⟨L, hL, rfl⟩ := hx.ptr_inv
    split
    · rename_i hb
      obtain ⟨o, h1, h2⟩ := h.blk r _ L hb hL
      cases h2 with
      | miterN h0 =>
        refine .inl ⟨.tuple #[.bool false], w, .inl ?_, φ, Ext.refl φ, h, Below.refl _ _, VRel.tup' (cs := [.bool false]) (.cons (.bool _) .nil)⟩
        simp only [Instr.next, h0, Nat.zero_add, Sem.run_bind, run_getObj_other h1 (by simp), Result.andThen_ok, Sem.run_pure]
    · rename_i id since seen last hb
      obtain ⟨o, h1, h2⟩ := h.blk r _ L hb hL
      cases h2 with
      | @miterS _ _ _ _ _ L' h0 hL' =>
        split
        · rename_i es clock hm
          obtain ⟨ces, h3, h4⟩ := h.map hm hL'
          split
          · rename_i hok
            rw [Bool.and_eq_true] at hok
            have hold := allOld_rel h4 hok.1
            have hle := nat_ble hok.2
            have hleft := leftA_rel (seen := seen) h4
            have hlo : (leftOf ces seen.toArray).toList = ces.toList.filter fun e => !seen.contains e.born := by
              simp [leftOf]
            rw [← hlo] at hleft
            have hrun := run_next_at (P := E.P) w ty L.b L'.b since last seen.toArray ces clock h1 h3 (by simpa using hold) hle
            have hp : (⟨L.b, L.off + 0, none⟩ : Addr) = ⟨L.b, 0, none⟩ := by rw [h0]
            rw [hp]
            have some' : ∀ e, e ∈ (leftOf ces seen.toArray).toList → ∀ w1 : World, (w1 = w ∨ w1 = w.drew) → (Instr.next (.pointer (some ⟨L.b, 0, none⟩)) false ty).run E.P w = .ok (.tuple #[.bool true, e.key, e.val]) (ChangeMaps.setBlock w1 L.b (.mapIter (some L'.b) since (seen.toArray.push e.born) clock)) →
                ∃ (n : Nat) (a : AEnt), (leftA seen es)[n]? = some a ∧ After E φ ν B w (.tup [.bool true, a.key, a.val]) (m.set r (some (.miter (some id) since (appL seen [a.born]) clock))) (.tuple #[.bool true, e.key, e.val]) (ChangeMaps.setBlock w1 L.b (.mapIter (some L'.b) since (seen.toArray.push e.born) clock)) := by
              intro e he w1 hw1 _
              obtain ⟨n, a, q1, q2, q3, q4⟩ := hleft.mem he
              have hM1 : MRel E φ ν B m w1 := by
                rcases hw1 with rfl | rfl
                · exact h
                · exact h.drew
              have hB1 : Below B w w1 := by rcases hw1 with rfl | rfl <;> exact ⟨rfl, rfl, rfl, Nat.le_refl _, fun _ _ => rfl⟩
              refine ⟨n, a, q1, φ, Ext.refl φ, hM1.setB hb hL rfl ?_, hB1.trans (Below.setB hM1 hb hL rfl _), VRel.tup' (cs := [.bool true, e.key, e.val]) (.cons (.bool _) (.cons q2 (.cons q3 .nil)))⟩
              have : seen.toArray.push e.born = (appL seen [a.born]).toArray := by rw [appL_eq, q4]; simp
              rw [this]
              exact .miterS h0 hL'
            split
            · rename_i hnil
              rcases hrun with ⟨_, hr⟩ | ⟨e, he, w1, hw1, hr⟩
              · refine .inl ⟨.tuple #[.bool false], w, .inl ?_, φ, Ext.refl φ, h, Below.refl _ _, VRel.tup' (cs := [.bool false]) (.cons (.bool _) .nil)⟩
                simp only [Sem.run_bind, hr, Result.andThen_ok, Sem.run_pure]
              · obtain ⟨n, a, q1, _⟩ := some' e he w1 hw1 hr
                rw [hnil] at q1; simp at q1
            · rename_i a0 hone
              rcases hrun with ⟨hz, hr⟩ | ⟨e, he, w1, hw1, hr⟩
              · have := hleft.length
                rw [hone] at this
                simp only [List.length_cons, List.length_nil, Array.length_toList] at this
                omega
              · obtain ⟨n, a, q1, q2⟩ := some' e he w1 hw1 hr
                rw [hone] at q1
                have : n = 0 ∧ a = a0 := by
                  cases n with
                  | zero => simp at q1; exact ⟨rfl, q1.symm⟩
                  | succ n => simp at q1
                obtain ⟨_, rfl⟩ := this
                exact .inl ⟨_, _, .inl (by simp only [Sem.run_bind, hr, Result.andThen_ok, Sem.run_pure]), q2⟩
            · rename_i l hn1 hn2
              rcases hrun with ⟨hz, hr⟩ | ⟨e, he, w1, hw1, hr⟩
              · have := hleft.length
                rw [show (leftOf ces seen.toArray).toList.length = 0 from by rw [Array.length_toList]; exact hz] at this
                exact absurd (List.length_eq_zero_iff.1 this) (by intro e; exact hn1 e)
              · obtain ⟨n, a, q1, q2⟩ := some' e he w1 hw1 hr
                exact ⟨n, _, _, _, _, nextAlts_get q1, by simp only [Sem.run_bind, hr, Result.andThen_ok, Sem.run_pure], q2⟩
          · trivial
        · trivial
    · rename_i id since last cur must gone k hb
      obtain ⟨o, h1, h2⟩ := h.blk r _ L hb hL
      cases h2 with
      | @miterW _ _ _ _ _ _ _ seen _ L' h0 hL' hnd hlt hlen hmu hgo hcur =>
        split
        · rename_i es clock hm
          obtain ⟨ces, h3, h4⟩ := h.map hm hL'
          split
          · rename_i hok
            rw [Bool.and_eq_true] at hok
            obtain ⟨hseq, _⟩ := bornSeq_spec hok.1
            rw [Nat.sub_zero] at hseq
            have hle := nat_ble hok.2
            have hborn : ∀ x ∈ ces.toList, x.born < since := by
              intro x hx
              have : x.born ∈ ces.toList.map (·.born) := List.mem_map.2 ⟨x, hx, rfl⟩
              rw [← h4.borns, hseq, List.mem_range'_1] at this
              omega
            have hall : ∀ b, b < since → ∃ x ∈ ces.toList, x.born = b := by
              intro b hb'
              have : b ∈ es.map (·.born) := by rw [hseq, List.mem_range'_1]; omega
              rw [h4.borns] at this
              obtain ⟨x, hx, rfl⟩ := List.mem_map.1 this
              exact ⟨x, hx, rfl⟩
            have hlo : (leftOf ces seen.toArray).toList = ces.toList.filter fun e => !seen.contains e.born := by
              simp [leftOf]
            have hrun := run_next_at (P := E.P) w ty L.b L'.b since last seen.toArray ces clock h1 h3 (by simpa using hborn) hle
            have hp : (⟨L.b, L.off + 0, none⟩ : Addr) = ⟨L.b, 0, none⟩ := by rw [h0]
            rw [hp]
            split
            · rcases hrun with ⟨_, hr⟩ | ⟨e, he, w1, hw1, hr⟩
              · refine .inl ⟨.tuple #[.bool false], w, .inl ?_, φ, Ext.refl φ, h, Below.refl _ _, VRel.tup' (cs := [.bool false]) (.cons (.bool _) .nil)⟩
                simp only [Sem.run_bind, hr, Result.andThen_ok, Sem.run_pure]
              · exfalso
                rw [hlo, List.mem_filter] at he
                have := full_of_nodup hnd hlt (by omega) e.born (hborn e he.1)
                simp [this] at he
            · rename_i k
              rcases hrun with ⟨hz, hr⟩ | ⟨e, he, w1, hw1, hr⟩
              · exfalso
                rw [← Array.length_toList, hlo] at hz
                have hnil := List.length_eq_zero_iff.1 hz
                have hsub : ∀ b, b ∈ List.range since → b ∈ seen := by
                  intro b hb'
                  obtain ⟨x, hx, rfl⟩ := hall b (List.mem_range.1 hb')
                  rcases Classical.em (x.born ∈ seen) with q | q
                  · exact q
                  · have : x ∈ ces.toList.filter fun e => !seen.contains e.born := by rw [List.mem_filter]; exact ⟨hx, by simpa using q⟩
                    rw [hnil] at this
                    cases this
                have := List.Nodup.length_le_of_subset List.nodup_range hsub
                simp at this
                omega
              · rw [hlo, List.mem_filter] at he
                have hns : e.born ∉ seen := by simpa using he.2
                obtain ⟨n, a, q1, q2, q3, q4⟩ := h4.mem he.1
                have hM1 : MRel E φ ν B m w1 := by
                  rcases hw1 with rfl | rfl
                  · exact h
                  · exact h.drew
                have hB1 : Below B w w1 := by rcases hw1 with rfl | rfl <;> exact ⟨rfl, rfl, rfl, Nat.le_refl _, fun _ _ => rfl⟩
                have hin : a ∈ lastB must k es := by
                  unfold lastB
                  split
                  · rename_i b
                    refine keepB_mem (List.mem_of_getElem? q1) ?_
                    rcases Classical.em (a.born = b) with q | q
                    · exact q
                    · exfalso
                      obtain ⟨g1, g2⟩ := hmu b (.head _)
                      have hsub : ∀ x ∈ a.born :: b :: seen, x ∈ List.range since := by
                        intro x hx
                        rw [List.mem_range]
                        cases hx with
                        | head => rw [q4]; exact hborn e he.1
                        | tail _ hx =>
                          cases hx with
                          | head => exact g2
                          | tail _ hx => exact hlt x hx
                      have hnd2 : (a.born :: b :: seen).Nodup := by
                        rw [List.nodup_cons, List.nodup_cons]
                        refine ⟨fun hx => ?_, g1, hnd⟩
                        cases hx with
                        | head => exact q rfl
                        | tail _ hx => rw [q4] at hx; exact hns hx
                      have := List.Nodup.length_le_of_subset hnd2 hsub
                      simp at this
                      omega
                  · exact List.mem_of_getElem? q1
                obtain ⟨j, hj⟩ := nextAltsW_get (m := m) (r := r) (id := id) (since := since) (clock := clock) (k := k) (must := must) (gone := gone) hin (fun q => hns (by rw [← q4]; exact hgo _ q))
                have hseen : seen.toArray.push e.born = (seen ++ [e.born]).toArray := by simp
                have hnd' : (seen ++ [e.born]).Nodup := by
                  rw [List.nodup_append]
                  exact ⟨hnd, by simp, fun x hx y hy => by simp at hy; subst hy; intro q; subst q; exact hns hx⟩
                have hlt' : ∀ b ∈ seen ++ [e.born], b < since := by
                  intro b hb'
                  rw [List.mem_append, List.mem_singleton] at hb'
                  rcases hb' with q | rfl
                  · exact hlt b q
                  · exact hborn e he.1
                refine ⟨j, _, _, .tuple #[.bool true, e.key, e.val], ChangeMaps.setBlock w1 L.b (.mapIter (some L'.b) since (seen.toArray.push e.born) clock), hj, by simp only [Sem.run_bind, hr, Result.andThen_ok, Sem.run_pure], φ, Ext.refl φ, hM1.setB hb hL rfl ?_, hB1.trans (Below.setB hM1 hb hL rfl _), VRel.tup' (cs := [.bool true, e.key, e.val]) (.cons (.bool _) (.cons q2 (.cons q3 .nil)))⟩
                rw [hseen]
                split
                · refine .miterW h0 hL' hnd' hlt' (by simp; omega) (fun b hb' => ?_) (fun b hb' => ?_) (fun c hc => by simp only [Option.some.injEq] at hc; subst hc; simp [q4])
                  · rw [dropN_mem] at hb'
                    refine ⟨?_, (hmu b hb'.1).2⟩
                    rw [List.mem_append, List.mem_singleton]
                    rintro (q | q)
                    · exact (hmu b hb'.1).1 q
                    · exact hb'.2 (q.trans q4.symm)
                  · rw [List.mem_append, List.mem_singleton]
                    cases hb' with
                    | head => exact .inr q4
                    | tail _ hb' => exact .inl (hgo b hb')
                · rename_i hnm
                  refine .miterW h0 hL' hnd' hlt' (by simp; omega) (fun b hb' => ?_) (fun b hb' => by rw [List.mem_append]; exact .inl (hgo b hb')) (fun c hc => by simp only [Option.some.injEq] at hc; subst hc; simp [q4])
                  refine ⟨?_, (hmu b hb').2⟩
                  rw [List.mem_append, List.mem_singleton]
                  rintro (q | q)
                  · exact (hmu b hb').1 q
                  · have : memN a.born must = true := (memN_mem _ _).2 (by rw [q4, ← q]; exact hb')
                    rw [this] at hnm
                    cases hnm
          · trivial
        · trivial
    · trivial
  · trivial
end
end Go.Ev
namespace Go.Ev
open Go Go.RowKit
section
variable {E : Env} {φ φ' : Phi} {ν : Nat → Int} {w w' : World} {B : Nat} {m m' : AMem} {P : Program}
theorem cell_heap (e : w'.heap = w.heap) (a : Addr) : w'.cell? a = w.cell? a := by simp [World.cell?, e]
theorem run_loadCells_zero (P : Program) (w : World) (a : Addr) : (loadCells a 0).run P w = .ok #[] w := by simp [loadCells, loadCellsFrom]
theorem bytes_extract (s : ByteArray) (k : Nat) : ((s.extract 0 k).data.map fun b => Value.int .u8 b.toNat) = ((s.data.map fun b => Value.int .u8 b.toNat).toList.take k).toArray := by
  apply Array.ext'
  simp [ByteArray.data_extract]
/-- The cells that are appended or copied. -/
theorem srcCells_sound (h : MRel E φ ν B m w) {size : Nat} {x : AV} {n : Nat} {cs : List AV} (hs : srcCells size x m = some (n, cs)) {cx : Value} (hx : VRel φ ν x cx) :
    ∃ ccs : List Value, LRel φ ν cs ccs ∧ ccs.length = n * size ∧ (∀ w' : World, (Builtin.lenOf cx).run E.P w' = .ok n w') ∧
      ∀ w' : World, w'.heap = w.heap → ∀ k, k ≤ n → (Builtin.firstCells size k cx).run E.P w' = .ok (ccs.take (k * size)).toArray w' := by
  unfold srcCells at hs
  split at hs
  · simp only [Option.some.injEq, Prod.mk.injEq] at hs
    obtain ⟨rfl, rfl⟩ := hs
    cases hx.nilSlice_inv
    exact ⟨[], .nil, by simp, fun w' => by simp [Builtin.lenOf], fun w' _ k _ => by simp [Builtin.firstCells]⟩
  · rename_i id off len cap
    obtain ⟨L, a, c, rfl, hS⟩ := hx.slice_inv
    split at hs
    · rename_i cs' hl
      simp only [Option.some.injEq, Prod.mk.injEq] at hs
      obtain ⟨rfl, rfl⟩ := hs
      obtain ⟨ccs, h1, h2, h3⟩ := loadN_sound h hl hS.loc
      simp only [Nat.mul_eq] at h1
      refine ⟨ccs, h2, h1, fun w' => by simp [Builtin.lenOf], fun w' hw' k hk => ?_⟩
      simp only [Builtin.firstCells]
      by_cases hc : c = 0
      · have : k = 0 := by have := hS.le; omega
        subst this
        simp [run_loadCells_zero]
      · rw [hS.addr hc]
        refine run_loadCells' ?_ ?_
        · rw [List.length_take, h1]
          exact Nat.min_eq_left (Nat.mul_le_mul_right _ hk)
        · intro j v hv
          rw [List.getElem?_take] at hv
          split at hv
          · rw [cell_heap hw']; exact h3 j v hv
          · cases hv
    · cases hs
  · split at hs
    · rename_i s hsz
      simp only [Option.some.injEq, Prod.mk.injEq] at hs
      obtain ⟨rfl, rfl⟩ := hs
      obtain ⟨bs, rfl, rfl⟩ := hx.str_inv
      have := nat_beq hsz
      subst this
      refine ⟨_, byteVals_sound bs, ?_, fun w' => ?_, fun w' hw' k hk => ?_⟩
      · rw [lenL_eq]; simp [bytesOf]
      · rw [lenL_eq]; simp [Builtin.lenOf, bytesOf]
      · simp only [Builtin.firstCells, bytes_extract, Nat.mul_one, Sem.run_pure]
    · cases hs
  · cases hs
set_option maxHeartbeats 4000000 in
theorem run_append_some {t u ty e : TypeId} {i : TypeInfo} {d : TypeDesc} {ts : Array TypeId} {x : Value} {n sLen sCap : Nat} {new : Array Value} {a : Addr}
    (ht : P.underlying t = some (.slice e)) (hi : P.info? e = some i) (h0 : ts[0]? = some t) (h1 : ts[1]? = some u) (hu : P.underlying u = some d) (hd : ∀ k, d ≠ .int k)
    (hl : (Builtin.lenOf x).run P w = .ok n w) (hf : (Builtin.firstCells i.size n x).run P w = .ok new w) (hroom : sLen + n ≤ sCap)
    (hst : (storeCells (a.add (sLen * i.size)) new.toList).run P w = .ok () w') :
    (Builtin.append_ ts ty #[.slice (some a) sLen sCap, x]).run P w = .ok (.slice (some a) (sLen + n) sCap) w' := by
  cases d <;> first
    | exact absurd rfl (hd _)
    | simp [Builtin.append_, h0, h1, run_underlying ht, run_underlying hu, sizeOf, typeInfo, hi, hl, hroom, hf, hst]
set_option maxHeartbeats 4000000 in
theorem run_append_none {t u ty e : TypeId} {i : TypeInfo} {d : TypeDesc} {ts : Array TypeId} {x : Value} {n sLen sCap : Nat} {new : Array Value}
    (ht : P.underlying t = some (.slice e)) (hi : P.info? e = some i) (h0 : ts[0]? = some t) (h1 : ts[1]? = some u) (hu : P.underlying u = some d) (hd : ∀ k, d ≠ .int k)
    (hl : (Builtin.lenOf x).run P w = .ok n w) (hf : (Builtin.firstCells i.size n x).run P w = .ok new w) (hroom : sLen + n ≤ sCap) :
    (Builtin.append_ ts ty #[.slice none sLen sCap, x]).run P w = .ok (.slice none (sLen + n) sCap) w := by
  cases d <;> first
    | exact absurd rfl (hd _)
    | simp [Builtin.append_, h0, h1, run_underlying ht, run_underlying hu, sizeOf, typeInfo, hi, hl, hroom, hf]
set_option maxHeartbeats 4000000 in
theorem run_append_new {t u ty e : TypeId} {i : TypeInfo} {z : Value} {d : TypeDesc} {ts : Array TypeId} {x : Value} {n sLen sCap : Nat} {old new : Array Value} {base : Option Addr}
    (ht : P.underlying t = some (.slice e)) (hi : P.info? e = some i) (hz : i.zero = some z) (h0 : ts[0]? = some t) (h1 : ts[1]? = some u) (hu : P.underlying u = some d) (hd : ∀ k, d ≠ .int k)
    (hl : (Builtin.lenOf x).run P w = .ok n w) (hf : (Builtin.firstCells i.size n x).run P w.drew = .ok new w.drew)
    (hfo : (Builtin.firstCells i.size sLen (.slice base sLen sCap)).run P w.drew = .ok old w.drew) (hroom : sCap < sLen + n) (hn : sLen + n ≤ 1000000) (hb : i.bytes ≤ 1000) :
    (Builtin.append_ ts ty #[.slice base sLen sCap, x]).run P w =
      .ok (.slice (some ⟨w.heap.size, 0, none⟩) (sLen + n) (grownCap w (sLen + n) sCap e)) (w.drew.alloc (.cells (old ++ new ++ Builtin.zeroCells z.cells (grownCap w (sLen + n) sCap e - (sLen + n))) e)) := by
  have hn' : ¬ (sLen + n ≤ sCap) := by omega
  have h63' : ¬ (9223372036854775807 < ((sLen : Int) + (n : Int))) := by omega
  have hfit := growslice_fits (bytes := i.bytes) hroom (by
    have := Nat.mul_le_mul hn hb
    omega)
  have h48' : ¬ (281474976710656 < Builtin.nextslicecap (sLen + n) sCap * i.bytes) := by omega
  have hask : ∀ k (w1 : World), (askRoom k).run P w1 = .ok () w1 := by
    intro k w1
    unfold askRoom
    split <;> rfl
  cases d <;> first
    | exact absurd rfl (hd _)
    | (simp [Builtin.append_, h0, h1, run_underlying ht, run_underlying hu, sizeOf, typeInfo, zeroValue, hi, hz, hl, hn', h63', h48', Question.forced, hask, hf, hfo, newRow, grownCap]; done)
    | (simp [Builtin.append_, h0, h1, run_underlying ht, run_underlying hu, sizeOf, typeInfo, zeroValue, hi, hz, hl, hn', h63', h48', Question.forced, hask, newRow, grownCap]
       rw [hfo]; simp [hf])
end
end Go.Ev
namespace Go.Ev
open Go Go.RowKit
section
variable {E : Env} {φ φ' : Phi} {ν : Nat → Int} {w w' : World} {B : Nat} {m m' : AMem} {P : Program}
/-- A block gets another name. -/
theorem MRel.rename (h : MRel E φ ν B m w) {id : Nat} {x : ABlk} {L : Loc} (hb : m.get id = some x) (hl : φ id = some L) :
    MRel E (φ.put m.next L) ν B ((m.set id none).push x) w := by
  have hext := h.ext_put L
  have hne : id ≠ m.next := by have := h.dom id L hl; omega
  have hnx : (m.set id none).next = m.next := AMem.next_set _ _ _
  have gt : ∀ j y, ((m.set id none).push x).get j = some y → (j = m.next ∧ y = x) ∨ (j ≠ m.next ∧ j ≠ id ∧ m.get j = some y) := by
    intro j y hy
    rw [AMem.get_push, hnx] at hy
    by_cases e : m.next = j
    · rw [if_pos e] at hy; simp only [Option.some.injEq] at hy; exact .inl ⟨e.symm, hy.symm⟩
    · rw [if_neg e, AMem.get_set] at hy
      by_cases e' : id = j
      · rw [if_pos e'] at hy; cases hy
      · rw [if_neg e'] at hy; exact .inr ⟨fun q => e q.symm, fun q => e' q.symm, hy⟩
  have old : ∀ j y K, m.get j = some y → φ.put m.next L j = some K → j ≠ m.next → φ j = some K := fun j y K _ hK hj => by rw [phi_put_ne L hj] at hK; exact hK
  refine ⟨h.toGRel.mono hext, ?_, ?_, ?_, ?_, ?_, h.base, fun j y hy => ?_, by rw [AMem.next_push, hnx]; exact Nat.le_succ_of_le h.lim, h.vals, h.bas, h.old⟩
  · intro j y K hy hK
    rcases gt j y hy with ⟨rfl, rfl⟩ | ⟨e1, e2, hy'⟩
    · rw [Phi.put_self] at hK; simp only [Option.some.injEq] at hK; subst hK
      obtain ⟨o, q1, q2⟩ := h.blk id _ L hb hl
      exact ⟨o, q1, q2.mono hext⟩
    · obtain ⟨o, q1, q2⟩ := h.blk j y K hy' (old j y K hy' hK e1)
      exact ⟨o, q1, q2.mono hext⟩
  · intro j K hK
    rw [AMem.next_push, hnx]
    by_cases e : j = m.next
    · omega
    · rw [phi_put_ne L e] at hK; have := h.dom j K hK; omega
  · intro j K hK
    by_cases e : j = m.next
    · subst e; rw [Phi.put_self] at hK; simp only [Option.some.injEq] at hK; subst hK; exact h.lt id L hl
    · rw [phi_put_ne L e] at hK; exact h.lt j K hK
  · intro j j' y y' K K' hy hy' hK hK' he
    rcases gt j y hy with ⟨rfl, rfl⟩ | ⟨e1, e2, hy1⟩ <;> rcases gt j' y' hy' with ⟨rfl, rfl⟩ | ⟨e1', e2', hy1'⟩
    · rfl
    · rw [Phi.put_self] at hK; simp only [Option.some.injEq] at hK; subst hK
      exact absurd (h.inj id j' _ y' L K' hb hy1' hl (old j' y' K' hy1' hK' e1') he).symm e2'
    · rw [Phi.put_self] at hK'; simp only [Option.some.injEq] at hK'; subst hK'
      exact absurd (h.inj j id y _ K L hy1 hb (old j y K hy1 hK e1) hl he) e2
    · exact h.inj j j' y y' K K' hy1 hy1' (old j y K hy1 hK e1) (old j' y' K' hy1' hK' e1') he
  · intro j y K hy hK hw
    rcases gt j y hy with ⟨rfl, rfl⟩ | ⟨e1, e2, hy1⟩
    · rw [Phi.put_self] at hK; simp only [Option.some.injEq] at hK; subst hK; exact h.own id _ L hb hl hw
    · exact h.own j y K hy1 (old j y K hy1 hK e1) hw
  · rw [AMem.next_push, hnx]
    rcases gt j y hy with ⟨rfl, rfl⟩ | ⟨e1, e2, hy1⟩
    · omega
    · have := h.top j y hy1; omega
theorem MRel.congr (h : MRel E φ ν B m w) (hg : ∀ j, m'.get j = m.get j) (hn : m'.next = m.next) : MRel E φ ν B m' w :=
  ⟨h.toGRel, fun j y L a => h.blk j y L (by rw [← hg]; exact a), fun j L a => by rw [hn]; exact h.dom j L a, h.lt, fun j j' y y' L L' a b => h.inj j j' y y' L L' (by rw [← hg]; exact a) (by rw [← hg]; exact b),
    fun j y L a => h.own j y L (by rw [← hg]; exact a), h.base, fun j y a => by rw [hn]; exact h.top j y (by rw [← hg]; exact a), by rw [hn]; exact h.lim, h.vals, h.bas, h.old⟩
theorem MRel.move (h : MRel E φ ν B m w) {id : Nat} {b x : ABlk} {L : Loc} {o : Obj} (hb : m.get id = some b) (hl : φ id = some L) (hsz : w'.heap.size = w.heap.size)
    (ho : w'.heap[L.b]? = some o) (hx : BObj φ ν x L o) (hother : ∀ k, k ≠ L.b → w'.heap[k]? = w.heap[k]?) (hw : wr b = true) :
    MRel E (φ.put m.next L) ν B ((m.set id none).push x) w' := by
  have h1 := h.set hb hl hsz ho hx hother hw
  have h2 := h1.rename (id := id) (x := x) (L := L) (by rw [AMem.get_set, if_pos rfl]) hl
  rw [AMem.next_set] at h2
  refine h2.congr (fun j => ?_) ?_
  · rw [AMem.get_push, AMem.get_push, AMem.next_set, AMem.next_set, AMem.next_set]
    by_cases e : m.next = j
    · rw [if_pos e, if_pos e]
    · rw [if_neg e, if_neg e, AMem.get_set, AMem.get_set, AMem.get_set]
      by_cases e' : id = j
      · rw [if_pos e', if_pos e']
      · rw [if_neg e', if_neg e', if_neg e']
  · rw [AMem.next_push, AMem.next_push, AMem.next_set, AMem.next_set, AMem.next_set]
theorem zeroFit_sound {t size : Nat} (h : zeroFit E t size = true) : ∃ i z, E.P.info? t = some i ∧ i.zero = some z ∧ z.cells.size = size := by
  unfold zeroFit at h
  split at h
  · rename_i za hz
    obtain ⟨i, z, h1, h2, h3⟩ := zeroA_sound (φ := ⟨fun _ => none, 0, fun _ => .nilFunc⟩) (ν := fun _ => 0) hz
    have := h3.cells (zeroA_known hz)
    refine ⟨i, z, h1, h2, ?_⟩
    have l := this.1
    have := nat_beq h
    rw [lenL_eq] at this
    rw [← this, l]; simp
  · cases h
/-- A new row with more room, perhaps. -/
theorem bobj_grown {cs : List AV} {ccs : List Value} (hl : LRel φ ν cs ccs) {b e cap n size lo hi : Nat} {rest : Array Value} (hlen : ccs.length = n * size) (hrest : rest.size = (cap - n) * size) (hcap : n ≤ cap) :
    BObj φ ν (.cells cs e true false lo hi) ⟨b, 0, cap * size⟩ (.cells (ccs.toArray ++ rest) e) := by
  have hm : n * size ≤ cap * size := Nat.mul_le_mul_right _ hcap
  have hsum : n * size + (cap - n) * size = cap * size := by rw [← Nat.add_mul]; congr 1; omega
  refine .cells (by rw [hl.1, hlen]; exact hm) (by simp [hlen, hrest]; omega) (fun q => by cases q) ?_ ⟨fun i _ q1 q2 => by simp at q2, fun _ => .inl rfl⟩
  intro i a ha
  obtain ⟨c, hc, hv⟩ := hl.get ha
  refine ⟨c, ?_, hv⟩
  simp only [Nat.zero_add]
  rw [Array.getElem?_append_left (by rw [List.size_toArray]; rcases Nat.lt_or_ge i ccs.length with q | q; exact q; rw [List.getElem?_eq_none q] at hc; cases hc)]
  simpa using hc
theorem below_drew (w : World) : Below B w w.drew := ⟨rfl, rfl, rfl, Nat.le_refl _, fun _ _ => rfl⟩
/-- The new row, laid. -/
theorem grow_after (h : MRel E φ ν B m w) {cs : List AV} {ccs : List Value} (hl : LRel φ ν cs ccs) {e cap n size lo hi : Nat} {rest : Array Value} (hs0 : 0 < size) (hlen : ccs.length = n * size) (hrest : rest.size = (cap - n) * size) (hcap : n ≤ cap) :
    After E φ ν B w (.slice m.next 0 n (.opn size)) (m.push (.cells cs e true false lo hi)) (.slice (some ⟨w.heap.size, 0, none⟩) n cap) (w.drew.alloc (.cells (ccs.toArray ++ rest) e)) := by
  have hd : MRel E φ ν B m w.drew := h.drew
  have := Pushed.after hd (Pushed.alloc w.drew (.cells (ccs.toArray ++ rest) e)) (L := ⟨w.heap.size, 0, cap * size⟩) rfl (bobj_grown hl hlen hrest hcap (b := w.heap.size) (lo := lo) (hi := hi))
    (a := .slice m.next 0 n (.opn size)) (v := .slice (some ⟨w.heap.size, 0, none⟩) n cap)
    (fun φ' hi _ => .sliceO hi (fun _ => rfl) hcap hs0 (by simp))
  obtain ⟨φ', q1, q2, q3, q4⟩ := this
  exact ⟨φ', q1, q2, (below_drew w).trans q3, q4⟩
theorem okBytes_le {n b : Nat} (h : okBytes n b = true) : n ≤ 1000000 ∧ b ≤ 1000 := by
  unfold okBytes at h
  rw [Bool.and_eq_true] at h
  exact ⟨nat_ble h.1, nat_ble h.2⟩
end
end Go.Ev
namespace Go.Ev
open Go Go.RowKit
section
variable {E : Env} {φ φ' : Phi} {ν : Nat → Int} {w w' : World} {B : Nat} {m m' : AMem} {P : Program}
theorem storeNil (P : Program) (a : Addr) (w : World) : (storeCells a []).run P w = .ok () w := rfl
/-- Cells behind a slice's first address, stored: where the slice has no cells there is nothing to store. -/
theorem storeAt_slice (h : MRel E φ ν B m w) {id off k : Nat} {vs : List AV} {cvs : List Value} (hs : storeN m id (Nat.add off k) vs = some m') (hv : LRel φ ν vs cvs) {L : Loc} (hL : φ id = some L)
    {a : Addr} {c : Nat} (ha : c ≠ 0 → a = ⟨L.b, L.off + off, none⟩) (h0 : c = 0 → cvs = []) :
    ∃ w', (storeCells (a.add k) cvs).run E.P w = .ok () w' ∧ MRel E φ ν B m' w' ∧ Below B w w' := by
  obtain ⟨w', r1, r2, r3⟩ := storeN_sound h hs hv hL
  by_cases hc : c = 0
  · have := h0 hc
    subst this
    rw [storeNil] at r1
    simp only [Result.ok.injEq, true_and] at r1
    subst r1
    exact ⟨w, storeNil _ _ _, r2, r3⟩
  · rw [ha hc, addr_add]
    simp only [Nat.add_eq, ← Nat.add_assoc] at r1
    exact ⟨w', r1, r2, r3⟩
theorem lrel_len {as : List AV} {cs : List Value} (h : LRel φ ν as cs) : as.length = cs.length := h.1
theorem bAppend_sound (h : MRel E φ ν B m w) {t u ty : Nat} {d : TypeDesc} {ts : Array TypeId} (h0 : ts[0]? = some t) (h1 : ts[1]? = some u) (hu : E.P.underlying u = some d) (hd : ∀ k, d ≠ .int k)
    {s x : AV} {cs cx : Value} (hs : VRel φ ν s cs) (hx : VRel φ ν x cx) :
    ResOk E φ ν B m w ((do pure (.value (← Builtin.append_ ts ty #[cs, cx])) : Sem Next).run E.P w) (bAppend E t false s x m) := by
  have val : ∀ {v : AV} {m' : AMem} {c : Value} {w' : World}, (Builtin.append_ ts ty #[cs, cx]).run E.P w = .ok c w' → After E φ ν B w v m' c w' →
      ResOk E φ ν B m w ((do pure (.value (← Builtin.append_ ts ty #[cs, cx])) : Sem Next).run E.P w) (.val v m') := by
    intro v m' c w' hr ha
    exact .inl ⟨c, w', .inl (by simp only [Sem.run_bind, hr, Result.andThen_ok, Sem.run_pure]), ha⟩
  unfold bAppend
  split
  · rename_i elem ht hff
    split
    · trivial
    · rename_i inf hi
      split
      · rename_i n new hz hsrc
        rw [Bool.or_eq_false_iff] at hz
        obtain ⟨hz0, hzf⟩ := hz
        have hpos : 0 < inf.size := by have := nat_beq_false hz0; omega
        rw [Bool.not_eq_false'] at hzf
        obtain ⟨inf', z, hi', hzz, hzs⟩ := zeroFit_sound hzf
        rw [hi] at hi'
        simp only [Option.some.injEq] at hi'; subst hi'
        obtain ⟨ccs, s1, s2, s3, s4⟩ := srcCells_sound h hsrc hx
        have hfull : ∀ w' : World, w'.heap = w.heap → (Builtin.firstCells inf.size n cx).run E.P w' = .ok ccs.toArray w' := by
          intro w' hw'
          have := s4 w' hw' n (Nat.le_refl _)
          rw [← s2, List.take_length] at this
          exact this
        split
        · -- nil
          cases hs.nilSlice_inv
          split
          · have hr := run_append_none (w := w) (ty := ty) ht hi h0 h1 hu hd (s3 w) (hfull w rfl) (sLen := 0) (sCap := 0) (by omega)
            exact val hr ⟨φ, Ext.refl φ, h, Below.refl _ _, .nilSlice⟩
          · rename_i hn0
            split
            · rename_i hok
              obtain ⟨o1, o2⟩ := okBytes_le hok
              have hn : n ≠ 0 := fun e => hn0 e
              have hr := run_append_new (w := w) (ty := ty) (base := none) (sLen := 0) (sCap := 0) (old := #[]) ht hi hzz h0 h1 hu hd (s3 w) (hfull w.drew rfl) (by simp [Builtin.firstCells]) (by omega) (by omega) o2
              unfold growNew
              rw [AMem.new_eq]
              simp only [Nat.zero_add, Array.empty_append] at hr
              refine val hr ?_
              exact grow_after h s1 hpos s2 (by rw [size_zeroCells, hzs]) (by have := grownCap_ge w n 0 elem; exact this)
            · trivial
        · -- not nil
          rename_i id off len cap
          obtain ⟨L, a, c, rfl, hS⟩ := hs.slice_inv
          split
          · rename_i old hok hold hlv
            obtain ⟨o1, o2⟩ := okBytes_le hok
            simp only [Nat.add_eq] at o1
            obtain ⟨ocs, t1, t2, t3⟩ := loadN_sound h hold hS.loc
            simp only [Nat.mul_eq] at t1
            have hold' : ∀ w' : World, w'.heap = w.heap → (Builtin.firstCells inf.size len (.slice (some a) len c)).run E.P w' = .ok ocs.toArray w' := by
              intro w' hw'
              simp only [Builtin.firstCells]
              by_cases hc : c = 0
              · have hl0 : len = 0 := by have := hS.le; omega
                subst hl0
                have : ocs = [] := List.length_eq_zero_iff.1 (by omega)
                subst this
                rw [Nat.zero_mul]; exact run_loadCells_zero _ _ _
              · rw [hS.addr hc]
                exact run_loadCells' t1 (fun j v hv => by rw [cell_heap hw']; exact t3 j v hv)
            have room : ∀ {mm : AMem}, len + n ≤ c → storeN m id (Nat.add off (Nat.mul len inf.size)) new = some mm → SRel φ id off (len + n) cap L a c →
                ResOk E φ ν B m w ((do pure (.value (← Builtin.append_ ts ty #[.slice (some a) len c, cx])) : Sem Next).run E.P w) (.val (.slice id off (len + n) cap) mm) := by
              intro mm hle hst hS'
              have hz : c = 0 → ccs = [] := by
                intro hc
                have hn : n = 0 := by omega
                rw [hn, Nat.zero_mul] at s2
                exact List.length_eq_zero_iff.1 s2
              obtain ⟨w', r1, r2, r3⟩ := storeAt_slice h hst s1 hS.loc (a := a) (c := c) hS.addr hz
              have hr := run_append_some (w := w) (ty := ty) ht hi h0 h1 hu hd (s3 w) (hfull w rfl) hle (by simpa using r1)
              exact val hr ⟨φ, Ext.refl φ, r2, r3, hS'.vrel⟩
            have grow : ∀ {lo hi0 : Nat} , c < len + n →
                ResOk E φ ν B m w ((do pure (.value (← Builtin.append_ ts ty #[.slice (some a) len c, cx])) : Sem Next).run E.P w) (.val (.slice m.next 0 (len + n) (.opn inf.size)) (m.push (.cells (appL old new) elem true false lo hi0))) := by
              intro lo hi0 hlt
              have hr := run_append_new (w := w) (ty := ty) (base := some a) (sLen := len) (sCap := c) ht hi hzz h0 h1 hu hd (s3 w) (hfull w.drew rfl) (hold' w.drew rfl) hlt o1 o2
              have happ : LRel φ ν (appL old new) (ocs ++ ccs) := by rw [appL_eq]; exact t2.append s1
              have := grow_after (lo := lo) (hi := hi0) (e := elem) (cap := grownCap w (len + n) c elem) (n := len + n) (rest := Builtin.zeroCells z.cells (grownCap w (len + n) c elem - (len + n))) h happ hpos (by simp [t1, s2, Nat.add_mul]) (by rw [size_zeroCells, hzs]) (grownCap_ge w (len + n) c elem)
              rw [← List.append_toArray] at this
              exact val hr this
            split
            · rename_i c'
              have hcc : c = c' := hS.cap
              subst hcc
              split
              · rename_i hle
                have hle' := nat_ble hle
                simp only [Nat.add_eq] at hle'
                split
                · rename_i mm hst
                  exact room hle' hst ⟨hS.loc, hS.addr, hle', rfl⟩
                · trivial
              · rename_i hle
                have hlt := nat_ble_false hle
                simp only [Nat.add_eq] at hlt
                rw [force_eq]
                unfold growNew
                rw [AMem.new_eq]
                exact grow hlt
            · rename_i sz
              obtain ⟨hsz0, hcap⟩ := hS.cap
              split
              · trivial
              · rename_i hsz
                have := nat_beq hsz
                subst this
                split
                · rename_i bcs bty lo hi0 hb
                  obtain ⟨cc, fz, c1, c2, c3, c4, c5, c6⟩ := h.cells hb hS.loc
                  split
                  · rename_i hin
                    have hin' := nat_ble hin
                    rw [lenL_eq] at hin'
                    simp only [Nat.add_eq, Nat.mul_eq] at hin'
                    have hle : len + n ≤ c := by
                      have : (len + n) * inf.size ≤ c * inf.size := by omega
                      exact Nat.le_of_mul_le_mul_right this hsz0
                    split
                    · rename_i mm hst
                      rw [force_eq]
                      exact room hle hst ⟨hS.loc, hS.addr, hle, hsz0, hcap⟩
                    · trivial
                  · rename_i hin
                    have hin' := nat_ble_false hin
                    rw [lenL_eq] at hin'
                    simp only [Nat.add_eq, Nat.mul_eq] at hin'
                    split
                    · rename_i hthaw hty hoff
                      have e1 := nat_beq hty
                      have e2 := nat_beq hoff
                      subst e1; subst e2
                      rw [force_eq, AMem.new_eq]
                      have hnx : (m.set id none).next = m.next := AMem.next_set _ _ _
                      rw [hnx]
                      by_cases hle : len + n ≤ c
                      · -- in place
                        rw [Bool.or_eq_true] at hthaw
                        have hc0 : c ≠ 0 := by
                          intro e
                          have : len + n = 0 := by omega
                          rw [this] at hin'; omega
                        have ha := hS.addr hc0
                        simp only [Nat.add_zero] at ha
                        have hmul : len * inf.size + n * inf.size ≤ c * inf.size := by rw [← Nat.add_mul]; exact Nat.mul_le_mul_right _ hle
                        have hlen : new.length = ccs.length := s1.1
                        have hone : ∀ v ∈ ccs, v.oneCell' = true := by
                          intro v hm
                          obtain ⟨i, hi, rfl⟩ := List.getElem_of_mem hm
                          have hi' : i < new.length := by omega
                          exact leaf_oneCell (leaves_mem hlv new[i] (List.getElem_mem hi')) (s1.2 i _ _ (List.getElem?_eq_getElem hi') (List.getElem?_eq_getElem hi))
                        obtain ⟨w', new', r1, r2, r3, r4, r5, r6, r7, r8, r9⟩ := run_storeCells' E.P L.b (L.off + len * inf.size) bty fz ccs 0 cc w c1 (by omega) hone (fun j _ q ⟨q1, q2⟩ => by
                          obtain ⟨z1, z2⟩ := c6.1 (len * inf.size + j) (by omega) (by omega) (by omega)
                          rcases hthaw with z3 | z3
                          · have := nat_ble z3; simp only [Nat.add_eq, Nat.mul_eq, Nat.zero_add] at this; omega
                          · have := nat_ble z3; omega)
                        have hr := run_append_some (w := w) (w' := w') (ty := ty) (a := a) ht hi h0 h1 hu hd (s3 w) (hfull w rfl) hle (by rw [ha, addr_add]; exact r1)
                        have happ : appL old new = old ++ new := appL_eq _ _
                        have hol : old.length = len * inf.size := by rw [t2.1, t1]
                        refine val hr ⟨φ.put m.next L, h.ext_put L, ?_, ⟨r7, r8, r9, by omega, fun k hk => r6 k (by have := h.own id _ L hb hS.loc rfl; omega)⟩, ?_⟩
                        · refine h.move hb hS.loc r5 r2 ?_ r6 rfl
                          have hx := h.ext_put L
                          refine .cells (by rw [happ, List.length_append, hol, hlen, s2]; omega) (by rw [r3]; exact c3) (fun q => by cases q) ?_ c6
                          intro i x hxi
                          rw [happ] at hxi
                          rw [r4]
                          simp only [Nat.add_zero]
                          by_cases q : i < len * inf.size
                          · rw [List.getElem?_append_left (by omega)] at hxi
                            obtain ⟨c', k1, k2⟩ := t2.get hxi
                            rw [if_neg (by omega)]
                            refine ⟨c', ?_, k2⟩
                            have := t3 i c' k1
                            rw [cell_of c1, Nat.add_zero] at this
                            exact this
                          · rw [List.getElem?_append_right (by omega), hol] at hxi
                            obtain ⟨c', k1, k2⟩ := s1.get hxi
                            have hlt : i - len * inf.size < ccs.length := by
                              rcases Nat.lt_or_ge (i - len * inf.size) ccs.length with z | z
                              · exact z
                              · rw [List.getElem?_eq_none z] at k1; cases k1
                            rw [if_pos (by omega), show L.off + i - (L.off + len * inf.size) = i - len * inf.size from by omega]
                            exact ⟨c', k1, k2⟩
                        · exact .sliceO (Phi.put_self _ _ _) (fun _ => by rw [ha]; rfl) hle hsz0 hcap
                      · -- a new row
                        have hr := run_append_new (w := w) (ty := ty) (base := some a) (sLen := len) (sCap := c) ht hi hzz h0 h1 hu hd (s3 w) (hfull w.drew rfl) (hold' w.drew rfl) (by omega) o1 o2
                        have happ : LRel φ ν (appL old new) (ocs ++ ccs) := by rw [appL_eq]; exact t2.append s1
                        have := grow_after (lo := lo) (hi := hi0) (e := bty) (cap := grownCap w (len + n) c bty) (n := len + n) (rest := Builtin.zeroCells z.cells (grownCap w (len + n) c bty - (len + n))) (h.kill id) happ hpos (by simp [t1, s2, Nat.add_mul]) (by rw [size_zeroCells, hzs]) (grownCap_ge w (len + n) c bty)
                        rw [← List.append_toArray, hnx] at this
                        exact val hr this
                    · trivial
                · trivial
          · trivial
        · trivial
      · trivial
  · trivial
end
end Go.Ev
namespace Go.Ev
open Go Go.RowKit
section
variable {E : Env} {φ φ' : Phi} {ν : Nat → Int} {w w' : World} {B : Nat} {m m' : AMem} {P : Program}
theorem addr_add0 (a : Addr) : a.add 0 = a := rfl
theorem bCopy_sound (h : MRel E φ ν B m w) {t ty : Nat} {ts : Array TypeId} (h0 : ts[0]? = some t)
    {d s : AV} {cd cs : Value} (hd : VRel φ ν d cd) (hs : VRel φ ν s cs) :
    ResOk E φ ν B m w ((do pure (.value (← Builtin.copy_ ts ty #[cd, cs])) : Sem Next).run E.P w) (bCopy E t d s m) := by
  have val : ∀ {v : AV} {m' : AMem} {c : Value} {w' : World}, (Builtin.copy_ ts ty #[cd, cs]).run E.P w = .ok c w' → After E φ ν B w v m' c w' →
      ResOk E φ ν B m w ((do pure (.value (← Builtin.copy_ ts ty #[cd, cs])) : Sem Next).run E.P w) (.val v m') := by
    intro v m' c w' hr ha
    exact .inl ⟨c, w', .inl (by simp only [Sem.run_bind, hr, Result.andThen_ok, Sem.run_pure]), ha⟩
  unfold bCopy
  split
  · rename_i elem ht
    split
    · rename_i size hsz
      obtain ⟨inf, hi, rfl⟩ := sizeA_some hsz
      split
      · rename_i id off len cap n new hsrc
        obtain ⟨L, a, c, rfl, hS⟩ := hd.slice_inv
        obtain ⟨ccs, s1, s2, s3, s4⟩ := srcCells_sound h hsrc hs
        rw [force_eq]
        split
        · rename_i mm hst
          rw [takeL_eq] at hst
          have hk : Nat.min n len ≤ n := Nat.min_le_left _ _
          have hkl : Nat.min n len ≤ len := Nat.min_le_right _ _
          have hl := s1.take (Nat.mul (Nat.min n len) inf.size)
          have hz : c = 0 → ccs.take (Nat.mul (Nat.min n len) inf.size) = [] := by
            intro hc
            have : Nat.min n len = 0 := by have := hS.le; omega
            rw [this]; simp
          obtain ⟨w', r1, r2, r3⟩ := storeAt_slice (k := 0) h hst hl hS.loc (a := a) (c := c) hS.addr hz
          rw [addr_add0] at r1
          refine val (c := goInt (Nat.min n len)) (w' := w') ?_ ⟨φ, Ext.refl φ, r2, r3, .int _ _⟩
          have hf := s4 w rfl (Nat.min n len) hk
          simp only [Builtin.copy_, h0, List.getElem?_toArray, List.getElem?_cons_zero, List.getElem?_cons_succ, Sem.run_bind, run_underlying ht, Result.andThen_ok, s3 w, run_size hi, hf, Sem.run_pure]
          simp only [Nat.mul_eq] at r1
          rw [r1]; rfl
        · trivial
      · rename_i p hsrc
        obtain ⟨n, new⟩ := p
        cases hd.nilSlice_inv
        obtain ⟨ccs, s1, s2, s3, s4⟩ := srcCells_sound h hsrc hs
        refine val (c := goInt 0) (w' := w) ?_ ⟨φ, Ext.refl φ, h, Below.refl _ _, .int _ _⟩
        have hf := s4 w rfl 0 (Nat.zero_le _)
        have hm : Nat.min n 0 = 0 := Nat.min_zero n
        simp only [Builtin.copy_, h0, List.getElem?_toArray, List.getElem?_cons_zero, List.getElem?_cons_succ, Sem.run_bind, run_underlying ht, Result.andThen_ok, s3 w, run_size hi, hm, hf, Sem.run_pure]
        rfl
      · trivial
    · trivial
  · trivial
theorem liesAt_off {e : TypeId} (hc : P.cellsOf e = 1) (count off n : Nat) (hn : off + n ≤ count) : liesAt P P.depth e count off e n = true := by
  have hd : P.depth = (2 * (P.types.size + Made.depth) + 1) + 1 := rfl
  rw [hd]
  simp only [liesAt, Bool.or_eq_true]
  left
  rw [hd]
  simp [rowAt, hc, hn, sameLayout, Nat.mod_one]
theorem unsafeString_eq (ts : Array TypeId) (ty : TypeId) (p : Option Addr) (len_ : Value) : Builtin.unsafeString_ ts ty #[.pointer p, len_] =
    (do
      let n ← asInt len_
      let some pt := ts[0]? | stuck "unsafe.String: no argument types"
      if n < 0 then runtimePanic (.error "unsafe.String: len out of range")
      if n > IntKind.i64.max then unsupported (.unsafePointer "String: a length above the largest int")
      match p with
      | none =>
        if n = 0 then pure (.string .empty)
        else runtimePanic (.error "unsafe.String: ptr is nil and len is not zero")
      | some a =>
        if n = 0 then pure (.string .empty)
        else if ← variablesAt a (← elemOf pt) n.toNat then do
          let s ← loadBytes a .empty n.toNat
          freeze a n.toNat
          pure (.string s)
        else unsupported (.unsafePointer "String: not so many bytes at ptr")) := rfl
/-- 'unsafe.String' over some bytes of a row. -/
theorem run_unsafeString_off {ts : Array TypeId} {t ty e : TypeId} (h0 : ts[0]? = some t) (hp : P.underlying t = some (.pointer e)) (hc : P.cellsOf e = 1) {g off cells : Nat} (hsh : w.shape? g = some (e, cells)) (l : List UInt8) (hl : l.length ≠ 0) (hn : off + l.length ≤ cells)
    (h63 : l.length ≤ 9223372036854775807) (k : IntKind) (hcell : ∀ j x, l[j]? = some x → w.cell? ((⟨g, off, none⟩ : Addr).add j) = some (.int .u8 x.toNat)) :
    (Builtin.unsafeString_ ts ty #[.pointer (some ⟨g, off, none⟩), .int k l.length]).run P w = .ok (.string ⟨l.toArray⟩) (w.freeze ⟨g, off, none⟩ l.length) := by
  have hlb := Lib.run_loadBytes (P := P) w l ⟨g, off, none⟩ .empty hcell
  have hlies := liesAt_off (P := P) hc (cells / P.cellsOf e) off l.length (by rw [hc]; simpa using hn)
  have h63' : ¬ (9223372036854775807 : Int) < (l.length : Int) := by omega
  have hmax : IntKind.i64.max = 9223372036854775807 := rfl
  have hneg : ¬ (l.length : Int) < 0 := by omega
  rw [unsafeString_eq]
  simp [h0, asInt, asIntOf, hmax, h63', hneg, hl, variablesAt, hsh, elemOf, run_underlying hp, hlies, hlb]
theorem bUnsafeString_sound (h : MRel E φ ν B m w) {t ty : Nat} {ts : Array TypeId} (h0 : ts[0]? = some t)
    {p n : AV} {cp cn : Value} (hp : VRel φ ν p cp) (hn : VRel φ ν n cn) :
    ResOk E φ ν B m w ((do pure (.value (← Builtin.unsafeString_ ts ty #[cp, cn])) : Sem Next).run E.P w) (bUnsafeString E t p n m) := by
  have val : ∀ {v : AV} {m' : AMem} {c : Value} {w' : World}, (Builtin.unsafeString_ ts ty #[cp, cn]).run E.P w = .ok c w' → After E φ ν B w v m' c w' →
      ResOk E φ ν B m w ((do pure (.value (← Builtin.unsafeString_ ts ty #[cp, cn])) : Sem Next).run E.P w) (.val v m') := by
    intro v m' c w' hr ha
    exact .inl ⟨c, w', .inl (by simp only [Sem.run_bind, hr, Result.andThen_ok, Sem.run_pure]), ha⟩
  have hmax : IntKind.i64.max = 9223372036854775807 := rfl
  unfold bUnsafeString
  split
  · rename_i k
    cases hp.nilPtr_inv
    cases hn.int_inv
    refine val (c := .string .empty) (w' := w) ?_ ⟨φ, Ext.refl φ, h, Below.refl _ _, .str .empty⟩
    rw [unsafeString_eq]
    simp [h0, asInt, asIntOf, hmax]
  · rename_i id off k n
    obtain ⟨L, hL, rfl⟩ := hp.ptr_inv
    cases hn.int_inv
    split
    · refine val (c := .string .empty) (w' := w) ?_ ⟨φ, Ext.refl φ, h, Below.refl _ _, .str .empty⟩
      rw [unsafeString_eq]
      simp [h0, asInt, asIntOf, hmax]
    · rename_i n e cs bty ext lo hi hu hb
      split
      · rename_i vs inf hvs hue hty hinf
        split
        · rename_i l dp hl hsz hdep
          split
          · rename_i hoff hlo
            have e1 := nat_beq hty
            have e2 := nat_beq hoff
            subst e1; subst e2
            rw [Bool.and_eq_true] at hsz
            have hs1 := nat_beq hsz.1
            have hb2 : n + 1 ≤ 9223372036854775807 := by
              have := nat_blt (show Nat.blt n.succ 9223372036854775808 = true from hsz.2)
              omega
            obtain ⟨cc, fz, c1, c2, c3, c4, c5, c6⟩ := h.cells hb hL
            obtain ⟨cvs, q1, q2, q3⟩ := loadN_sound h hvs hL
            obtain ⟨bs, rfl, rfl⟩ := loadBytes_sound hl q2
            simp only [List.length_map] at q1
            have hle : L.off + 0 + bs.length ≤ cc.size := by
              have hsome := q3 n (.int .u8 (bs[n]'(by omega)).toNat) (by simp [show n < bs.length from by omega])
              rw [cell_of c1] at hsome
              rcases Nat.lt_or_ge (L.off + 0 + n) cc.size with z | z
              · omega
              · rw [Array.getElem?_eq_none z] at hsome; cases hsome
            have hcel : E.P.cellsOf bty = 1 := by simp [Program.cellsOf, hinf, hs1]
            have hr := run_unsafeString_off (w := w) (ty := ty) h0 hu hcel (g := L.b) (off := L.off + 0) (shape_of c1) bs (by omega) hle (by omega) k (fun j x hx => by
              rw [addr_add]
              exact q3 j _ (by rw [List.getElem?_map, hx]; rfl))
            rw [q1] at hr
            refine val hr ⟨φ, Ext.refl φ, ?_, Lib.below_freeze (Below.refl _ _) (h.own id _ L hb hL rfl) _, VRel.str ⟨bs.toArray⟩⟩
            have hne : n + 1 ≠ 0 := by omega
            refine h.set hb hL (by simp [World.freeze]) (o := .cells cc bty (if fz.1 == fz.2 then (L.off + 0, L.off + 0 + (n + 1)) else (min fz.1 (L.off + 0), max fz.2 (L.off + 0 + (n + 1))))) (by simp [World.freeze, Array.getElem?_modify, c1]) ?_ (fun j hj => by
              simp only [World.freeze, hne, if_false, Array.getElem?_modify]
              rw [if_neg (fun q => hj q.symm)]) rfl
            rw [Bool.or_eq_true] at hlo
            have hcond : hi ≤ lo ∨ lo = 0 := hlo.imp nat_ble nat_beq
            have h6 := c6.2 hcond
            have hmx : Nat.max hi (n + 1) = max hi (n + 1) := rfl
            refine .cells c2 c3 c4 c5 ⟨fun i hi1 hi2 hi3 => ?_, fun _ => ?_⟩
            · rw [hmx]
              by_cases q : fz.1 = fz.2
              · simp only [q, beq_self_eq_true, if_true] at hi3
                omega
              · simp only [beq_eq_false_iff_ne.2 q, Bool.false_eq_true, if_false] at hi3
                omega
            · rw [hmx]
              right
              by_cases q : fz.1 = fz.2
              · simp only [q, beq_self_eq_true, if_true]
                omega
              · simp only [beq_eq_false_iff_ne.2 q, Bool.false_eq_true, if_false]
                omega
          · trivial
        · trivial
      · trivial
    · trivial
  · trivial
end
end Go.Ev
namespace Go.Ev
open Go Go.RowKit
section
variable {E : Env} {φ φ' : Phi} {ν : Nat → Int} {w w' : World} {B : Nat} {m m' : AMem} {P : Program}
/-- The contracts that the machine was told hold. -/
def SpecOk (E : Env) (ν : Nat → Int) : Prop :=
  ∀ f h, E.spec f = some h → ∀ φ B m w args cargs v m', MRel E φ ν B m w → LRel φ ν args cargs → h args m = some (v, m') →
    ValOk E.P w ((callFunc f cargs.toArray).run E.P w) (After E φ ν B w v m')
theorem enterFunc_sound {f : Nat} {args : List AV} {cargs : List Value} (ha : LRel φ ν args cargs) :
    ResOk E φ ν B m w ((callFunc f cargs.toArray).run E.P w) (enterFunc E f args m) := by
  unfold enterFunc
  split
  · rename_i fn hf
    split
    · rename_i body hb
      split
      · trivial
      · rename_i hn
        refine ⟨cargs, ?_, ha, rfl⟩
        simp [callFunc, hf, hn, hb]
    · trivial
  · trivial
theorem opCallFunc_sound (hS : SpecOk E ν) (h : MRel E φ ν B m w) {f : Nat} {args : List AV} {cargs : List Value} (ha : LRel φ ν args cargs) :
    ResOk E φ ν B m w ((callFunc f cargs.toArray).run E.P w) (opCallFunc E f args m) := by
  unfold opCallFunc
  split
  · rename_i hd hsp
    split
    · rename_i v m' hv
      exact hS f hd hsp φ B m w args cargs v m' h ha hv
    · exact enterFunc_sound ha
  · exact enterFunc_sound ha
theorem map_toArray' {ρ : Operand → Value} (xs : Array Operand) : xs.map ρ = (xs.toList.map ρ).toArray := by
  apply Array.ext'; simp
theorem opInvoke_sound (hS : SpecOk E ν) (h : MRel E φ ν B m w) {x : AV} {cx : Value} (hx : VRel φ ν x cx) {args : List AV} {cargs : List Value} (ha : LRel φ ν args cargs) :
    ResOk E φ ν B m w ((do let d ← Deferred.ofValue cx cargs.toArray; invoke d.target d.args : Sem Next).run E.P w) (opInvoke E x args m) := by
  unfold opInvoke
  split
  · rename_i f first cap
    obtain ⟨g, cs, ds, hfg, rfl, h1, h2⟩ := hx.fn_inv
    cases hfg
    have hl : LRel φ ν (appL (appL first args) cap) ((cs ++ cargs) ++ ds) := by rw [appL_eq, appL_eq]; exact (h1.append ha).append h2
    have := opCallFunc_sound hS h (f := f) hl
    simpa [Deferred.ofValue, invoke] using this
  · rename_i l
    obtain ⟨L, hL, rfl⟩ := hx.yield_inv
    exact ⟨L, cargs, hL, by simp [Deferred.ofValue, invoke], ha, rfl⟩
  · trivial
theorem opBuiltin_sound (h : MRel E φ ν B m w) {b : Builtin} {ts : Array TypeId} {ty : TypeId} {consts : Array Bool} {args : List AV} {cargs : List Value} (ha : LRel φ ν args cargs) :
    ResOk E φ ν B m w ((builtin b ts ty consts cargs.toArray).run E.P w) (opBuiltin E b ts args m) := by
  unfold opBuiltin
  split
  · rename_i t u r s x hts
    obtain ⟨c1, cs1, rfl, q1, ha1⟩ := ha.cons_inv
    obtain ⟨c2, cs2, rfl, q2, ha2⟩ := ha1.cons_inv
    rw [ha2.nil_inv]
    have h0 : ts[0]? = some t := by rw [← Array.getElem?_toList, hts]; rfl
    have h1 : ts[1]? = some u := by rw [← Array.getElem?_toList, hts]; rfl
    split
    · trivial
    · rename_i d hu hd
      exact bAppend_sound h (ty := ty) h0 h1 hd (fun k e => hu k e) q1 q2
    · trivial
  · rename_i t r d s hts
    obtain ⟨c1, cs1, rfl, q1, ha1⟩ := ha.cons_inv
    obtain ⟨c2, cs2, rfl, q2, ha2⟩ := ha1.cons_inv
    rw [ha2.nil_inv]
    have h0 : ts[0]? = some t := by rw [← Array.getElem?_toList, hts]; rfl
    exact bCopy_sound h (ty := ty) h0 q1 q2
  · rename_i t r p n hts
    obtain ⟨c1, cs1, rfl, q1, ha1⟩ := ha.cons_inv
    obtain ⟨c2, cs2, rfl, q2, ha2⟩ := ha1.cons_inv
    rw [ha2.nil_inv]
    have h0 : ts[0]? = some t := by rw [← Array.getElem?_toList, hts]; rfl
    exact bUnsafeString_sound h (ty := ty) h0 q1 q2
  · exact rfl
  · trivial
theorem opCall_sound (hS : SpecOk E ν) (h : MRel E φ ν B m w) {n : Nat} {T : Tr AV} {a : Act} (hT : TRel φ ν n T a.tmps) (c : Call) (ty : TypeId) :
    ResOk E φ ν B m w ((do let d ← resolve a.eval c ty; invoke d.target d.args : Sem Next).run E.P w) (opCall E T c m) := by
  have el := evAll_sound (a := a) h.toGRel hT c.args.toList
  have ev := fun x => aev_sound (a := a) h.toGRel hT x
  unfold opCall
  split
  · rename_i b hc
    have := opBuiltin_sound (ty := ty) (b := b) (ts := c.argTypes) (consts := c.args.map fun | .const _ => true | _ => false) h el
    simp only [resolve, hc, map_toArray', Sem.run_bind, Sem.run_pure, Result.andThen_ok, invoke]
    exact this
  · rename_i f hc
    have := opCallFunc_sound hS h (f := f) el
    simp only [resolve, hc, map_toArray', Act.eval]
    simpa [Deferred.ofValue, invoke] using this
  · rename_i f hf hc
    have := opInvoke_sound hS h (ev f) el
    simp only [resolve, hc, map_toArray']
    exact this
  · trivial
theorem opDefer_sound (h : MRel E φ ν B m w) {n : Nat} {T : Tr AV} {a : Act} (hT : TRel φ ν n T a.tmps) (c : Call) (ty : TypeId) :
    ResOk E φ ν B m w ((do pure (.defer (← resolve a.eval c ty)) : Sem Next).run E.P w) (opDefer E T c) := by
  have el := evAll_sound (a := a) h.toGRel hT c.args.toList
  have ev := fun x => aev_sound (a := a) h.toGRel hT x
  unfold opDefer
  split
  · rename_i f hc
    have hx := ev f
    split
    · rename_i g first cap hf
      rw [hf] at hx
      obtain ⟨g', cs, ds, hfg, hv, h1, h2⟩ := hx.fn_inv
      cases hfg
      refine ⟨{ target := .fn (.func g) ds.toArray, args := cs.toArray ++ (c.args.toList.map a.eval).toArray }, ?_, .fn h2, ?_⟩
      · simp only [resolve, hc, map_toArray', hv, Deferred.ofValue, Sem.run_bind, Sem.run_pure, Result.andThen_ok]
      · rw [appL_eq]
        simpa using h1.append el
    · trivial
  · trivial
/-- It is learnt how long a row is at least. -/
theorem MRel.know (h : MRel E φ ν B m w) {id : Nat} {b x : ABlk} {L : Loc} (hb : m.get id = some b) (hL : φ id = some L) (hx : ∀ o, w.heap[L.b]? = some o → BObj φ ν b L o → BObj φ ν x L o) (hw : wr x = false) :
    MRel E φ ν B (m.set id (some x)) w := by
  have key : ∀ {j y}, (m.set id (some x)).get j = some y → (j = id ∧ y = x) ∨ (j ≠ id ∧ m.get j = some y) := by
    intro j y hy
    rw [AMem.get_set] at hy
    by_cases e : id = j
    · rw [if_pos e] at hy; simp only [Option.some.injEq] at hy; exact .inl ⟨e.symm, hy.symm⟩
    · rw [if_neg e] at hy; exact .inr ⟨fun q => e q.symm, hy⟩
  have some' : ∀ {j y}, (m.set id (some x)).get j = some y → ∃ z, m.get j = some z := by
    intro j y hy
    rcases key hy with ⟨rfl, _⟩ | ⟨_, q⟩
    · exact ⟨b, hb⟩
    · exact ⟨y, q⟩
  refine ⟨h.toGRel, ?_, ?_, h.lt, ?_, ?_, h.base, ?_, ?_, h.vals, h.bas, h.old⟩
  · intro j y L' hy hl
    rcases key hy with ⟨rfl, rfl⟩ | ⟨_, q⟩
    · rw [hL] at hl
      simp only [Option.some.injEq] at hl
      subst hl
      obtain ⟨o, h1, h2⟩ := h.blk _ b L hb hL
      exact ⟨o, h1, hx o h1 h2⟩
    · exact h.blk j y L' q hl
  · intro j L' hl; rw [AMem.next_set]; exact h.dom j L' hl
  · intro i j y z L1 L2 hy hz
    obtain ⟨y', hy'⟩ := some' hy
    obtain ⟨z', hz'⟩ := some' hz
    exact h.inj i j y' z' L1 L2 hy' hz'
  · intro j y L' hy hl hwy
    rcases key hy with ⟨rfl, rfl⟩ | ⟨_, q⟩
    · rw [hw] at hwy; cases hwy
    · exact h.own j y L' q hl hwy
  · intro j y hy
    rw [AMem.next_set]
    obtain ⟨z, hz⟩ := some' hy
    exact h.top j z hz
  · rw [AMem.next_set]; exact h.lim
theorem xSplit_sound (h : MRel E φ ν B m w) {op : BinOp} {x y : AV} {cx cy : Value} (hx : VRel φ ν x cx) (hy : VRel φ ν y cy) (t : Nat) (ox oy : Operand) :
    ResOk E φ ν B m w ((do pure (.value (← do eqGuard op t ox oy cx cy; binOp op t cx cy)) : Sem Next).run E.P w) (xSplit op x y m) := by
  unfold xSplit
  split
  · rename_i k id
    split
    · rename_i cs sz lo hb
      obtain ⟨L, hL, rfl⟩ := hy.vsn_inv
      obtain rfl := hx.int_inv
      have hr : ∀ b : Bool, (decide ((k : Int) < (L.e : Int)) = b) → ((do pure (.value (← do eqGuard BinOp.lss t ox oy (.int .i64 (Int.ofNat k)) (.int .i64 (L.e : Int)); binOp BinOp.lss t (.int .i64 (Int.ofNat k)) (.int .i64 (L.e : Int)))) : Sem Next).run E.P w) = .ok (.value (.bool b)) w := by
        intro b hb'
        have hg : eqGuard BinOp.lss t ox oy (.int .i64 (Int.ofNat k)) (.int .i64 (L.e : Int)) = pure () := rfl
        rw [hg]
        subst hb'
        simp [binOp, Op.intCmp]
      by_cases q : k < L.e
      · refine ⟨0, .bool true, _, .bool true, w, rfl, hr true (by simpa using q), φ, Ext.refl φ, h.know hb hL (fun o _ ho => ?_) rfl, Below.refl _ _, .bool _⟩
        cases ho with
        | xrow h1 h2 => exact .xrow (by simp only [Nat.add_eq]; omega) h2
      · exact ⟨1, .bool false, _, .bool false, w, rfl, hr false (by simpa using q), φ, Ext.refl φ, h, Below.refl _ _, .bool _⟩
    · trivial
  · trivial
theorem eop_sound (hS : SpecOk E ν) (h : MRel E φ ν B m w) {n : Nat} {T : Tr AV} {a : Act} (hT : TRel φ ν n T a.tmps) (o : Oper) :
    ResOk E φ ν B m w ((execOp a.eval o).run E.P w) (eop E T m o.op) := by
  have ev := fun x => aev_sound (a := a) h.toGRel hT x
  obtain ⟨dst, op, type, pos, after, guard⟩ := o
  simp only
  unfold eop
  split
  · exact opStore_sound h (ev _) (ev _)
  · exact opMapUpdate_sound h (ev _) (ev _) (ev _)
  · exact opMapUpdate_sound h (ev _) (ev _) (ev _)
  · exact opRange_sound h (ev _)
  · exact opNext_sound h (ev _)
  · exact opCall_sound hS h hT _ _
  · exact opDefer_sound h hT _ _
  · rename_i x
    unfold opPanic
    split
    · rename_i t v hx
      have := ev x
      rw [hx] at this
      obtain ⟨y, hy, hv⟩ := this.iface_inv
      refine ⟨.iface t y, ?_, by rw [hx]; exact .iface hv, rfl⟩
      simp [execOp, hy, Instr.panic, goPanic]
    · trivial
  · rename_i op t x y u
    have := xSplit_sound (op := op) h (ev x) (ev y) t x y
    simpa [execOp] using this
  · trivial
end
end Go.Ev
