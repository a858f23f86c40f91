/- One step, whole. -/
import Derived.Test.YtiomjekkmjinbaaAb12
namespace Go.Ab
open Go

section
variable {P : Program} {β : Beta} {n : Dm} {m : Mem} {w : World} {fr : AFrame} {rf : Frame}

/-- A step that only moves on in the code. -/
theorem go_todo (hm : RelM β n m w) (h : RelF β n fr rf) {todo' : List Item} (hb : ∀ x ∈ todo', blwI n x = true)
    (hs : ∀ cs, step P (lone rf cs w) = .next (lone { rf with todo := todo'.map (renI β) } cs w)) :
    OutS P β n m w rf (.go { fr with todo := todo' } m n.n) :=
  ⟨β, w, { rf with todo := todo'.map (renI β) }, Ex.refl hm, ⟨h.fn, h.tmps, rfl, hb, h.defers, h.defersB, h.mode, h.kind, h.round, h.roundB⟩, ⟨rfl, rfl, rfl⟩, hs⟩

theorem step_apply {rf rf' : Frame} {cs : List Frame} {w' : World} {ops : Array Oper} {i : Nat} {rest : List Nat} {k : List Item} {o : Oper} (htd : rf.todo = .inRegion ops (i :: rest) :: k) (hmode : rf.mode = .run) (ho : ops[i]? = some o)
    (hw : Region.wanted o (yielded ops rf.tmps) = true) (hd : rf.roundOf = none ∨ ∀ c, o.op ≠ .defer c) {nx : Next} (hr : (execOp rf.eval o).run P w = .ok nx w')
    (hnx : (∃ v, nx = .value v ∧ rf' = rf.finish v) ∨ (nx = .skip ∧ rf' = rf.finish undef) ∨ (∃ d, nx = .defer d ∧ rf' = { rf with defers := d :: rf.defers }.finish undef)) :
    step P (lone rf cs w) = .next (lone rf' cs w') := by
  refine step_lone_go ?_
  obtain ⟨fn, tmps, todo, defers, mode, kind, roundOf⟩ := rf
  simp only at htd hmode hw hd
  subst htd; subst hmode
  have hop : stepG P true { frame := { fn := fn, tmps := tmps, todo := .inRegion ops (i :: rest) :: k, defers := defers, mode := .run, kind := kind, roundOf := roundOf }, callers := cs, status := .running, dying := none } w =
      stepG.apply P true { fn := fn, tmps := tmps, todo := .inRegion ops (i :: rest) :: k, defers := defers, mode := .run, kind := kind, roundOf := roundOf } cs none
        (execOp (Frame.eval { fn := fn, tmps := tmps, todo := .inRegion ops (i :: rest) :: k, defers := defers, mode := .run, kind := kind, roundOf := roundOf }) o) w := by
    simp only [stepG, stepG.exec, ho, Option.map_some, Option.getD_some, hw, if_true, stepG.oper, Frame.oper?]
    rcases hd with hd | hd
    · subst hd; rfl
    · cases roundOf with
      | none => rfl
      | some l =>
        cases hq : o.op <;> first | rfl | exact absurd hq (hd _)
  rw [hop]
  rcases hnx with ⟨v, rfl, rfl⟩ | ⟨rfl, rfl⟩ | ⟨d, rfl, rfl⟩ <;> simp [stepG.apply, Sem.runT_eq, hr]

theorem step_apply_enter {rf : Frame} {cs : List Frame} {w' : World} {ops : Array Oper} {i : Nat} {rest : List Nat} {k : List Item} {o : Oper} (htd : rf.todo = .inRegion ops (i :: rest) :: k) (hmode : rf.mode = .run) (ho : ops[i]? = some o)
    (hw : Region.wanted o (yielded ops rf.tmps) = true) (hd : ∀ c, o.op ≠ .defer c) {f : FuncId} {args : Array Value} (hr : (execOp rf.eval o).run P w = .ok (.enter f args) w') :
    step P (lone rf cs w) = .next (lone (Frame.enter P f args .normal) (rf :: cs) w') := by
  refine step_lone_go ?_
  obtain ⟨fn, tmps, todo, defers, mode, kind, roundOf⟩ := rf
  simp only at htd hmode hw
  subst htd; subst hmode
  have hop : stepG P true { frame := { fn := fn, tmps := tmps, todo := .inRegion ops (i :: rest) :: k, defers := defers, mode := .run, kind := kind, roundOf := roundOf }, callers := cs, status := .running, dying := none } w =
      stepG.apply P true { fn := fn, tmps := tmps, todo := .inRegion ops (i :: rest) :: k, defers := defers, mode := .run, kind := kind, roundOf := roundOf } cs none
        (execOp (Frame.eval { fn := fn, tmps := tmps, todo := .inRegion ops (i :: rest) :: k, defers := defers, mode := .run, kind := kind, roundOf := roundOf }) o) w := by
    simp only [stepG, stepG.exec, ho, Option.map_some, Option.getD_some, hw, if_true, stepG.oper, Frame.oper?]
    cases roundOf with
    | none => rfl
    | some l => cases hq : o.op <;> first | rfl | exact absurd hq (hd _)
  rw [hop]
  simp [stepG.apply, Sem.runT_eq, hr]

theorem step_apply_round {rf : Frame} {cs : List Frame} {w' : World} {ops : Array Oper} {i : Nat} {rest : List Nat} {k : List Item} {o : Oper} (htd : rf.todo = .inRegion ops (i :: rest) :: k) (hmode : rf.mode = .run) (ho : ops[i]? = some o)
    (hw : Region.wanted o (yielded ops rf.tmps) = true) (hd : ∀ c, o.op ≠ .defer c) {l : Nat} {f : FuncId} {tmps : Array Value} {as bd : Code} (hr : (execOp rf.eval o).run P w = .ok (.round l f tmps as bd) w') :
    step P (lone rf cs w) = .next (lone (Frame.round l f tmps as bd .normal) (rf :: cs) w') := by
  refine step_lone_go ?_
  obtain ⟨fn, tmps, todo, defers, mode, kind, roundOf⟩ := rf
  simp only at htd hmode hw
  subst htd; subst hmode
  have hop : stepG P true { frame := { fn := fn, tmps := tmps, todo := .inRegion ops (i :: rest) :: k, defers := defers, mode := .run, kind := kind, roundOf := roundOf }, callers := cs, status := .running, dying := none } w =
      stepG.apply P true { fn := fn, tmps := tmps, todo := .inRegion ops (i :: rest) :: k, defers := defers, mode := .run, kind := kind, roundOf := roundOf } cs none
        (execOp (Frame.eval { fn := fn, tmps := tmps, todo := .inRegion ops (i :: rest) :: k, defers := defers, mode := .run, kind := kind, roundOf := roundOf }) o) w := by
    simp only [stepG, stepG.exec, ho, Option.map_some, Option.getD_some, hw, if_true, stepG.oper, Frame.oper?]
    cases roundOf with
    | none => rfl
    | some l => cases hq : o.op <;> first | rfl | exact absurd hq (hd _)
  rw [hop]
  simp [stepG.apply, Sem.runT_eq, hr]

theorem step_unwanted {rf : Frame} {cs : List Frame} {ops : Array Oper} {i : Nat} {rest : List Nat} {k : List Item} {o : Oper} (htd : rf.todo = .inRegion ops (i :: rest) :: k) (hmode : rf.mode = .run) (ho : ops[i]? = some o)
    (hw : Region.wanted o (yielded ops rf.tmps) = false) : step P (lone rf cs w) = .next (lone (rf.finish undef) cs w) := by
  refine step_lone_go ?_
  obtain ⟨fn, tmps, todo, defers, mode, kind, roundOf⟩ := rf
  simp only at htd hmode hw
  subst htd; subst hmode
  simp [stepG, stepG.exec, ho, hw]

theorem undef_ren (β : Beta) : ren β undef = undef := rfl
theorem undef_blw (n : Dm) : blw n undef = true := rfl

/-- What quiet and effect operations come to, together. -/
theorem evOp_sound {sl : Slots} {ρ : Operand → Value} (hm : RelM β n m w) (hr : RelO β n sl ρ) (o : Oper) : EffS P β n m w ρ o (evOp P m n.n sl o) := by
  unfold evOp
  split
  · split
    · rename_i v h
      have := evQ_sound (P := P) hm hr h
      exact ⟨β, w, _, this.1, .inl rfl, Ex.refl hm, this.2⟩
    · trivial
  · exact evE_sound hm hr o

theorem evOp_defer {n : Nat} {sl : Slots} {o : Oper} {c : Call} (h : o.op = .defer c) : (∃ d, evOp P m n sl o = .dfr d) ∨ evOp P m n sl o = .fail := by
  obtain ⟨dst, op, type, pos, after, guard⟩ := o
  simp only at h; subst h
  obtain ⟨callee, args, argTypes⟩ := c
  simp only [evOp, quietOp, Bool.false_eq_true, if_false]
  cases callee with
  | value f =>
    simp only [evE]
    split
    · exact .inl ⟨_, rfl⟩
    · exact .inr rfl
  | invoke r nm => exact .inr rfl
  | builtin b => exact .inr rfl

theorem operA_sound (hm : RelM β n m w) (h : RelF β n fr rf) {ops : Array Oper} {i : Nat} {rest : List Nat} {k : List Item} {o : Oper} (htd : fr.todo = .inRegion ops (i :: rest) :: k) (hmode : fr.ret = false) (ho : ops[i]? = some o)
    (hw : wantedA ops fr.slots o = some true) (hd : dstOk fr.nt o.dst = true) : OutS P β n m w rf (operA P fr o m n.n) := by
  have htd' : rf.todo = .inRegion ops (i :: rest) :: k.map (renI β) := by rw [h.todo, htd]; rfl
  have hmd : rf.mode = .run := by rw [h.mode, hmode]; rfl
  have hw' := wantedA_sound h.tmps hw
  have hdo : ∀ o', ops[i]? = some o' → dstOk fr.nt o'.dst = true := fun o' e => by rw [ho] at e; cases e; exact hd
  have hs := evOp_sound (P := P) hm (h.tmps.ev rf rfl) o
  have hnd : (∀ d, evOp P m n.n fr.slots o ≠ .dfr d) → evOp P m n.n fr.slots o ≠ .fail → ∀ c, o.op ≠ .defer c := fun h1 h2 c hc => by
    rcases evOp_defer (P := P) (m := m) (n := n.n) (sl := fr.slots) hc with ⟨d, hd⟩ | hd
    · exact h1 d hd
    · exact h2 hd
  unfold operA
  generalize he : evOp P m n.n fr.slots o = e at *
  cases e with
  | val v m' n' =>
    obtain ⟨β', w', nx, h1, h2, h3, h4⟩ := hs
    have hr := h.agree h3.le h3.agree
    obtain ⟨f1, f2⟩ := fin_region hdo htd hr h4
    refine ⟨β', w', rf.finish (ren β' v), h3, f1, f2, fun cs => step_apply htd' hmd ho hw' (.inr (hnd (by simp) (by simp))) h1 ?_⟩
    rcases h2 with rfl | ⟨rfl, rfl⟩
    · exact .inl ⟨_, rfl, rfl⟩
    · exact .inr (.inl ⟨rfl, rfl⟩)
  | call f args =>
    simp only
    split
    · rename_i c hc
      obtain ⟨h1, h2⟩ := hs _ c hc
      obtain ⟨e1, e2, e3, e4⟩ := enterA_sound (β := β) (n := n) hc h2
      exact ⟨β, w, _, rf, Ex.refl hm, e1, h, Same.refl rf, fun cs => step_apply_enter htd' hmd ho hw' (hnd (by simp) (by simp)) h1,
        .inl ⟨e2, fun γ k' rx v hx hv => fin_region hdo htd hx hv⟩⟩
    · trivial
  | yield l args =>
    simp only
    split
    · rename_i c hc
      obtain ⟨hl, tmps, as, bd, h1, h2, h3, h4, h5, h6, h7⟩ := hs c hc
      refine ⟨β, w, Frame.round (β l).blk c.fn tmps as bd .normal, rf, Ex.refl hm, ⟨rfl, h2, ?_, ?_, ?_, ?_, ?_, h6.symm, ?_, ?_⟩, h, Same.refl rf,
        fun cs => step_apply_round htd' hmd ho hw' (hnd (by simp) (by simp)) h1, .inl ⟨h6, fun γ k' rx v hx hv => fin_region hdo htd hx hv⟩⟩
      · rw [h3]; rfl
      · rw [h3]; simp [blwI]
      · rw [h4]; rfl
      · rw [h4]; simp
      · rw [h5]; rfl
      · rw [h7]; rfl
      · rw [h7]; intro l' e; cases e; exact hl
    · trivial
  | dfr d =>
    simp only
    obtain ⟨h1, h2⟩ := hs
    split
    · rename_i hrd
      have hr2 : RelF β n { fr with defers := d :: fr.defers } { rf with defers := renD β d :: rf.defers } :=
        ⟨h.fn, h.tmps, h.todo, h.todoB, by simp [h.defers], fun x hx => by
          rcases List.mem_cons.1 hx with rfl | hx
          · exact h2
          · exact h.defersB x hx, h.mode, h.kind, h.round, h.roundB⟩
      obtain ⟨f1, f2⟩ := fin_region (fr := { fr with defers := d :: fr.defers }) (v := undef) hdo htd hr2 rfl
      refine ⟨β, w, _, Ex.refl hm, f1, ⟨f2.kind, f2.fn, f2.round⟩, fun cs => step_apply htd' hmd ho hw' (.inl (by rw [h.round, hrd]; rfl)) h1 (.inr (.inr ⟨_, rfl, rfl⟩))⟩
    · trivial
  | alts l =>
    obtain ⟨x, hx, β', w', nx, h1, h2, h3, h4⟩ := hs
    have hr := h.agree h3.le h3.agree
    obtain ⟨f1, f2⟩ := fin_region hdo htd hr h4
    refine ⟨(finA fr x.1, x.2.1, x.2.2), List.mem_map.2 ⟨x, hx, rfl⟩, β', w', rf.finish (ren β' x.1), h3, f1, f2, fun cs => step_apply htd' hmd ho hw' (.inr (hnd (by simp) (by simp))) h1 ?_⟩
    rcases h2 with rfl | ⟨rfl, h2⟩
    · exact .inl ⟨_, rfl, rfl⟩
    · exact .inr (.inl ⟨rfl, by rw [h2]; rfl⟩)
  | fail => trivial

theorem results_sound (hm : RelM β n m w) {sl : Slots} {nt : Nat} {tmps : Array Value} (ht : RelT β n nt sl tmps) : ∀ {l : List ResultVar} {vs : List Value}, resultsA P m sl l = some vs →
    (l.mapM (m := Sem) fun
      | .tmp t => pure (tmps.getD t undef)
      | .cell a t => do loadVar t (← asAddr (tmps.getD a undef))).run P w = .ok (renL β vs) w ∧ blwL n vs = true := by
  intro l
  induction l with
  | nil => intro vs h; simp only [resultsA, Option.some.injEq] at h; subst h; exact ⟨by simp [renL], rfl⟩
  | cons r l ih =>
    intro vs h
    have getD : ∀ {t : Nat} {v : Value}, lk sl t = some v → tmps.getD t undef = ren β v ∧ blw n v = true := fun {t v} hv => by
      have := ht.2 t v hv
      exact ⟨by simp [Array.getD_eq_getD_getElem?, this.1], this.2⟩
    cases r with
    | tmp t =>
      simp only [resultsA] at h
      split at h
      · rename_i v vs' h1 h2
        simp only [Option.some.injEq] at h; subst h
        obtain ⟨i1, i2⟩ := ih h2
        have g := getD h1
        refine ⟨?_, by simp [blwL, g.2, i2]⟩
        simp only [List.mapM_cons, Sem.run_bind, Sem.run_pure, Result.andThen_ok, g.1, i1, renL]
      · cases h
    | cell a t =>
      simp only [resultsA] at h
      split at h
      · rename_i x vs' h1 h2
        split at h
        · rename_i v hv
          simp only [Option.some.injEq] at h; subst h
          obtain ⟨i1, i2⟩ := ih h2
          have g := getD h1
          have hl := loadA_sound (P := P) hm hv
          refine ⟨?_, by simp [blwL, hl.2, i2]⟩
          obtain ⟨j, off, rfl⟩ : ∃ j off, x = .pointer (some ⟨j, off, none⟩) := by
            unfold loadA at hv
            split at hv
            · exact ⟨_, _, rfl⟩
            · cases hv
          have hlv : (loadVar t ⟨(β j).blk, off + (β j).sh, none⟩).run P w = .ok (ren β v) w := by
            simpa [Instr.loadAt, Instr.sureAddr, ren, renPtr] using hl.1
          have ha : (asAddr (tmps.getD a undef)).run P w = .ok ⟨(β j).blk, off + (β j).sh, none⟩ w := by rw [g.1]; rfl
          simp only [List.mapM_cons, Sem.run_bind, Sem.run_pure, Result.andThen_ok, ha, hlv, i1, renL]
        · cases h
      · cases h

theorem unwindA_sound (hm : RelM β n m w) (h : RelF β n fr rf) (hret : fr.ret = true) (hrd : fr.round = none) : OutS P β n m w rf (unwindA P fr m n.n) := by
  obtain ⟨fn, tmps, todo, defers, mode, kind, roundOf⟩ := rf
  have hmode : mode = .returning := by have := h.mode; simp [hret] at this; exact this
  have hround : roundOf = none := by have := h.round; simp [hrd] at this; exact this
  subst hmode; subst hround
  have hdf : defers = fr.defers.map (renD β) := h.defers
  unfold unwindA
  split
  · rename_i b args ds hd
    split
    · rename_i calls hg
      obtain ⟨hbn, hn, hcs, hh⟩ := hm.obj _ _ hg
      rw [hd] at hdf
      simp only [List.map_cons, renD, renT] at hdf
      have hdb := h.defersB
      rw [hd] at hdb
      have hlt : (β b).blk < w.heap.size := (Array.getElem?_eq_some_iff.1 hh).1
      have hrun : (Instr.takeDeferred (β b).blk).run P w = .ok (calls.map (renD β)) { w with heap := w.heap.setIfInBounds (β b).blk (.deferred none) } := by
        simp [Instr.takeDeferred, getObj, setObj, Sem.run, hh]
      have hex := Ex.setO hm hg rfl rfl (o' := .deferred none) (ob := .deferred none) (by simp) ⟨hn, by simp [hlt]⟩
      refine ⟨β, _, { fn := fn, tmps := tmps, todo := todo, defers := (calls ++ ds).map (renD β), mode := .returning, kind := kind, roundOf := none }, hex, ⟨h.fn, h.tmps, h.todo, h.todoB, rfl, ?_, h.mode, h.kind, h.round, h.roundB⟩, ⟨rfl, rfl, rfl⟩, fun cs => step_lone_go ?_⟩
      · intro d hd'
        rcases List.mem_append.1 hd' with h1 | h1
        · exact List.all_eq_true.1 hcs d h1
        · exact hdb d (List.mem_cons_of_mem _ h1)
      · subst hdf
        simp [stepG, unwind, Sem.runT_eq, hrun]
    · trivial
  · rename_i f cap args ds hd
    split
    · rename_i c hc
      rw [hd] at hdf
      have hdb := h.defersB
      rw [hd] at hdb
      have hb1 := hdb _ (List.mem_cons_self ..)
      simp only [blwD, blwT, Bool.and_eq_true] at hb1
      have hba : blwL n (args ++ cap) = true := by
        simp only [blwL_eq, List.all_append, Bool.and_eq_true] at hb1 ⊢
        exact ⟨hb1.2, hb1.1.2⟩
      obtain ⟨e1, e2, e3, e4⟩ := enterA_sound (β := β) (n := n) hc hba
      refine ⟨β, w, _, { fn := fn, tmps := tmps, todo := todo, defers := ds.map (renD β), mode := .returning, kind := kind, roundOf := none }, Ex.refl hm, e1,
        ⟨h.fn, h.tmps, h.todo, h.todoB, rfl, fun d hd' => hdb d (List.mem_cons_of_mem _ hd'), h.mode, h.kind, h.round, h.roundB⟩, ⟨rfl, rfl, rfl⟩, fun cs => step_lone_go ?_, .inr ⟨e2, hret⟩⟩
      subst hdf
      simp only [List.map_cons, renD, renT, renFn]
      have hcf := run_callFunc (P := P) (w := w) hc (renL β args ++ renL β cap).toArray
      have e5 : renL β (args ++ cap) = renL β args ++ renL β cap := by simp [renL_eq]
      rw [e5]
      simp [stepG, unwind, callDeferred, Sem.runT_eq, invoke, hcf]
    · trivial
  · trivial
  · rename_i hd
    split
    · rename_i fn' hf
      split
      · rename_i vs hvs
        rw [hd] at hdf
        have hfn : fn = fr.fn := h.fn
        obtain ⟨r1, r2⟩ := results_sound (P := P) hm h.tmps hvs
        refine ⟨β, w, Ex.refl hm, ?_, .inl ⟨rfl, rfl, rfl, hdf, fn', by rw [hfn]; exact hf, ?_⟩⟩
        · show blw n _ = true
          cases vs with
          | nil => rfl
          | cons v vs => cases vs with
            | nil => simpa [oneOf, blwL] using r2
            | cons u vs => simpa [oneOf, blw] using r2
        · have hmm : (fn'.results.mapM (m := Sem) fun
              | .tmp t => pure (tmps.getD t undef)
              | .cell a t => do loadVar t (← asAddr (tmps.getD a undef))).run P w = .ok (renL β vs).toArray w := by
            rw [Array.mapM_eq_mapM_toList]
            simp only [Sem.run_map]
            refine (congrArg (fun q => Result.andThen q _) r1).trans ?_
            simp
          unfold results
          simp only [Sem.run_bind, Sem.run_pure]
          refine (congrArg (fun q => Result.andThen q _) hmm).trans ?_
          simp only [Result.andThen_ok]
          cases vs with
          | nil => rfl
          | cons v vs => cases vs with
            | nil => rfl
            | cons u vs => simp [renL, oneOf, ren]
      · trivial
    · trivial
end
end Go.Ab
