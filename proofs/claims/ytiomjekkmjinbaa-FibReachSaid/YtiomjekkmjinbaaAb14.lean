/- One step of the abstract machine is one of the real machine. -/
import Derived.Test.YtiomjekkmjinbaaAb13
namespace Go.Ab
open Go

section
variable {P : Program} {β : Beta} {n : Dm} {m : Mem} {w : World} {fr : AFrame} {rf : Frame}

/-- A loop object. -/
theorem loop_of (hm : RelM β n m w) {l : Nat} {st : LoopState} {p : Option Code} {fn : FuncId} {nt : Nat} {slots : Slots} {params : List Tmp} {as bd : Code} {ds : Nat} (hg : m.get l = some (.loop st p fn nt slots params as bd ds)) :
    n.has l = true ∧ (β l).nil = false ∧ (β l).blk < w.heap.size ∧ ∃ tmps : Array Value, (∀ w' : World, w'.heap = w.heap → (Instr.getLoop (β l).blk).run P w' =
        .ok { state := st, pending := p, fn := fn, tmps := tmps, params := params.toArray, assign := as, body := bd, defers := (β ds).blk } w') ∧
      (∀ (st' : LoopState) (p' : Option Code), let ob : Obj := .loop { state := st', pending := p', fn := fn, tmps := tmps, params := params.toArray, assign := as, body := bd, defers := (β ds).blk }
        (setObj (β l).blk ob).run P w = .ok () { w with heap := w.heap.setIfInBounds (β l).blk ob } ∧
        Ex β n m w β n (m.set l (.loop st' p' fn nt slots params as bd ds)) { w with heap := w.heap.setIfInBounds (β l).blk ob }) := by
  obtain ⟨hl, hn, hds, hsb, tmps, hh, hsz, hsl⟩ := hm.obj _ _ hg
  have hlt : (β l).blk < w.heap.size := (Array.getElem?_eq_some_iff.1 hh).1
  refine ⟨hl, hn, hlt, tmps, fun w' hw => by simp [Instr.getLoop, getObj, Sem.run, hw, hh], fun st' p' => ⟨?_, ?_⟩⟩
  · simp [setObj, Sem.run, hh]
  · exact Ex.setO hm hg rfl rfl (by simp) ⟨hn, hds, hsb, tmps, by simp [hlt], hsz, hsl⟩

theorem leaveA_sound (hm : RelM β n m w) (h : RelF β n fr rf) (_hret : fr.ret = false) {jump : Option Code}
    (hstep : ∀ cs, stepG P true { frame := rf, callers := cs, status := .running, dying := none } w =
      match rf.roundOf with
      | none => if jump matches none | some .ret then .go { frame := { rf with mode := .returning }, callers := cs, status := .running, dying := none } w else .ended (.stuck "exit, goto: no such block or label" (rf.pos P)) w
      | some l =>
        let (r, es) := (Instr.endRound l jump).runT P w #[]
        GStep.after (seen P rf.fn es) <| match r with
        | .ok v w => doReturn P true rf cs none v w
        | .halt _ w => .ended (.stuck "range over a function: no such loop" (rf.pos P)) w) : OutS P β n m w rf (leaveA fr m n.n jump) := by
  unfold leaveA
  split
  · rename_i hr
    have hro : rf.roundOf = none := by rw [h.round, hr]; rfl
    split
    · refine ⟨β, w, { rf with mode := .returning }, Ex.refl hm, ⟨h.fn, h.tmps, h.todo, h.todoB, h.defers, h.defersB, rfl, h.kind, h.round, h.roundB⟩, ⟨rfl, rfl, rfl⟩, fun cs => step_lone_go ?_⟩
      rw [hstep, hro]; simp
    · refine ⟨β, w, { rf with mode := .returning }, Ex.refl hm, ⟨h.fn, h.tmps, h.todo, h.todoB, h.defers, h.defersB, rfl, h.kind, h.round, h.roundB⟩, ⟨rfl, rfl, rfl⟩, fun cs => step_lone_go ?_⟩
      rw [hstep, hro]; simp
    · trivial
  · rename_i l hr
    have hro : rf.roundOf = some (β l).blk := by rw [h.round, hr]; rfl
    split
    · rename_i st p fn nt slots params as bd ds hg hkn
      obtain ⟨hl, hn, hlt, tmps, hget, hset⟩ := loop_of (P := P) hm hg
      obtain ⟨hs1, hs2⟩ := hset (if jump.isNone then .ready else .done) jump
      generalize hW : ({ w with heap := w.heap.setIfInBounds (β l).blk (Obj.loop { state := if jump.isNone = true then LoopState.ready else LoopState.done, pending := jump, fn := fn, tmps := tmps, params := params.toArray, assign := as, body := bd, defers := (β ds).blk }) } : World) = w2 at hs1 hs2
      have hrun : (Instr.endRound (β l).blk jump).run P w = .ok (.bool jump.isNone) w2 := by
        simp only [Instr.endRound, Sem.run_bind, hget w rfl, Result.andThen_ok]
        refine (congrArg (fun q => Result.andThen q _) hs1).trans ?_
        simp only [Result.andThen_ok, Sem.run_pure]
      refine ⟨β, _, hs2, rfl, .inr ⟨by rw [hro]; rfl, by rw [h.kind, hkn], fun c cs => step_lone_go ?_⟩⟩
      rw [hstep, hro]
      have hkk : rf.kind = .normal := by rw [h.kind, hkn]
      simp only [Sem.runT_eq, hrun]
      simp [doReturn, hkk, ren]
    · trivial

theorem todoB_tail {fr : AFrame} {rf : Frame} {x : Item} {k : List Item} (h : RelF β n fr rf) (ht : fr.todo = x :: k) : ∀ y ∈ k, blwI n y = true :=
  fun y hy => h.todoB y (by rw [ht]; exact List.mem_cons_of_mem _ hy)

theorem exitTo_map {id : Nat} : ∀ {k : List Item}, exitTo id (k.map (renI β)) = (exitTo id k).map fun k' => k'.map (renI β)
  | [] => rfl
  | x :: k => by
    cases x <;> simp only [List.map_cons, renI, exitTo] <;> (try split) <;> first | rfl | exact exitTo_map
theorem exitTo_sub {id : Nat} : ∀ {k k' : List Item}, exitTo id k = some k' → ∀ y ∈ k', y ∈ k
  | [], k', h => by simp [exitTo] at h
  | x :: k, k', h => by
    intro y hy
    have : exitTo id k = some k' ∨ k' = k := by
      cases x <;> simp only [exitTo] at h <;> first | exact .inl h | skip
      split at h
      · simp only [Option.some.injEq] at h; exact .inr h.symm
      · exact .inl h
    rcases this with h | rfl
    · exact List.mem_cons_of_mem _ (exitTo_sub h y hy)
    · exact List.mem_cons_of_mem _ hy
theorem gotoIn_map {id : Nat} : ∀ {k : List Item}, gotoIn id (k.map (renI β)) = (gotoIn id k).map fun k' => k'.map (renI β)
  | [] => rfl
  | x :: k => by
    cases x <;> simp only [List.map_cons, renI, gotoIn] <;> first | exact gotoIn_map | skip
    split
    · rfl
    · exact gotoIn_map
theorem gotoIn_sub {id : Nat} : ∀ {k k' : List Item}, gotoIn id k = some k' → (∀ y ∈ k, blwI n y = true) → ∀ y ∈ k', blwI n y = true
  | [], k', h => by simp [gotoIn] at h
  | x :: k, k', h => by
    intro hb y hy
    have : gotoIn id k = some k' ∨ ∃ c b, k' = .code c :: .inScope b :: k := by
      cases x <;> simp only [gotoIn] at h <;> first | exact .inl h | skip
      split at h
      · simp only [Option.some.injEq] at h; exact .inr ⟨_, _, h.symm⟩
      · exact .inl h
    rcases this with h | ⟨c, b, rfl⟩
    · exact gotoIn_sub h (fun y hy => hb y (List.mem_cons_of_mem _ hy)) y hy
    · rcases List.mem_cons.1 hy with rfl | hy
      · rfl
      · rcases List.mem_cons.1 hy with rfl | hy
        · rfl
        · exact hb y (List.mem_cons_of_mem _ hy)

/-- The call of a range over a function. -/
theorem range_call {sl : Slots} {nt : Nat} {tmps : Array Value} (ht : RelT β n nt sl tmps) {f : Operand} {g : FuncId} {first cap : List Value} (hf : evO sl f = some (.func (.func g) ⟨first⟩ ⟨cap⟩)) {L : Nat} {w : World}
    (hc : ∀ as, (callFunc g as).run P w = .ok (.enter g as) w) (frx : Frame) (hx : frx.tmps = tmps) :
    (do let d ← resolve frx.eval { callee := .value f, args := #[.const (.func (.yield L) #[] #[])], argTypes := #[] } 0; invoke d.target d.args : Sem Next).run P w =
      .ok (.enter g (renL β first ++ [Value.func (.yield L) #[] #[]] ++ renL β cap).toArray) w := by
  have h1 := ((ht.ev frx hx) f _ hf).1
  simp only [resolve, h1, ren, renFn, Deferred.ofValue, Sem.run_bind, Sem.run_pure, Result.andThen_ok, invoke, hc]
  simp [Frame.eval]

theorem stepA_sound (keep : FuncId → Option (List Nat)) (hm : RelM β n m w) (h : RelF β n fr rf) : OutS P β n m w rf (stepA P keep fr m n.n) := by
  unfold stepA
  split
  · rename_i hret
    split
    · rename_i hr
      exact unwindA_sound hm h hret hr
    · trivial
  · rename_i hret
    have hret : fr.ret = false := by simpa using hret
    have hmode : rf.mode = .run := by rw [h.mode, hret]; rfl
    have toS : ∀ {todo todo' : List Item}, fr.todo = todo → (∀ x ∈ todo', blwI n x = true) →
        (∀ cs fn tmps defers kind roundOf, (stepG P true { frame := { fn := fn, tmps := tmps, todo := todo.map (renI β), defers := defers, mode := .run, kind := kind, roundOf := roundOf }, callers := cs, status := .running, dying := none } w).bare =
          .go { frame := { fn := fn, tmps := tmps, todo := todo'.map (renI β), defers := defers, mode := .run, kind := kind, roundOf := roundOf }, callers := cs, status := .running, dying := none } w) →
        OutS P β n m w rf (.go { fr with todo := todo' } m n.n) := fun {todo todo'} ht hb hs =>
      go_todo hm h hb fun cs => step_lone_go (by
        have ht' := h.todo
        obtain ⟨fn, tmps, td, defers, mode, kind, roundOf⟩ := rf
        simp only at ht' hmode
        subst ht'; subst hmode
        rw [ht]
        exact hs cs fn tmps defers kind roundOf)
    have lv : ∀ {todo : List Item} {jump : Option Code}, fr.todo = todo →
        (∀ cs fn tmps defers kind roundOf, stepG P true { frame := { fn := fn, tmps := tmps, todo := todo.map (renI β), defers := defers, mode := .run, kind := kind, roundOf := roundOf }, callers := cs, status := .running, dying := none } w =
          match roundOf with
          | none => if jump matches none | some .ret then .go { frame := { fn := fn, tmps := tmps, todo := todo.map (renI β), defers := defers, mode := .returning, kind := kind, roundOf := roundOf }, callers := cs, status := .running, dying := none } w
            else .ended (.stuck "exit, goto: no such block or label" (Frame.pos P { fn := fn, tmps := tmps, todo := todo.map (renI β), defers := defers, mode := .run, kind := kind, roundOf := roundOf })) w
          | some l =>
            let (r, es) := (Instr.endRound l jump).runT P w #[]
            GStep.after (seen P fn es) <| match r with
            | .ok v w => doReturn P true { fn := fn, tmps := tmps, todo := todo.map (renI β), defers := defers, mode := .run, kind := kind, roundOf := roundOf } cs none v w
            | .halt _ w => .ended (.stuck "range over a function: no such loop" (Frame.pos P { fn := fn, tmps := tmps, todo := todo.map (renI β), defers := defers, mode := .run, kind := kind, roundOf := roundOf })) w) →
        OutS P β n m w rf (leaveA fr m n.n jump) := fun {todo jump} ht hs =>
      leaveA_sound hm h hret (fun cs => by
        have ht' := h.todo
        obtain ⟨fn, tmps, td, defers, mode, kind, roundOf⟩ := rf
        simp only at ht' hmode
        subst ht'; subst hmode
        rw [ht]
        exact hs cs fn tmps defers kind roundOf)
    split
    · rename_i ht
      exact lv ht fun cs fn tmps defers kind roundOf => by cases roundOf <;> rfl
    · rename_i c k ht
      have htb := todoB_tail h ht
      have c1 : ∀ (x : Item), blwI n x = true → ∀ y ∈ x :: k, blwI n y = true := fun x hx y hy => by
        rcases List.mem_cons.1 hy with rfl | hy
        · exact hx
        · exact htb y hy
      have c2 : ∀ (x z : Item), blwI n x = true → blwI n z = true → ∀ y ∈ x :: z :: k, blwI n y = true := fun x z hx hz y hy => by
        rcases List.mem_cons.1 hy with rfl | hy
        · exact hx
        · exact c1 z hz y hy
      split
      · exact lv ht fun cs fn tmps defers kind roundOf => by cases roundOf <;> rfl
      · exact toS ht htb fun cs fn tmps defers kind roundOf => by simp [stepG, stepG.exec, renI]
      · exact toS ht htb fun cs fn tmps defers kind roundOf => by simp [stepG, stepG.exec, renI]
      · exact toS ht (c2 _ _ rfl rfl) fun cs fn tmps defers kind roundOf => by simp [stepG, stepG.exec, renI]
      · rename_i c x y
        have hev : ∀ b, evO fr.slots c = some (.bool b) → ∀ cs, (stepG P true { frame := rf, callers := cs, status := .running, dying := none } w).bare =
            .go { frame := { rf with todo := .code (if b then x else y) :: k.map (renI β) }, callers := cs, status := .running, dying := none } w := fun b hb cs => by
          have := (h.tmps.ev rf rfl) c _ hb
          have ht' := h.todo
          obtain ⟨fn, tmps, td, defers, mode, kind, roundOf⟩ := rf
          simp only at ht' hmode
          rw [ht] at ht'
          subst ht'; subst hmode
          have := this.1
          simp only [List.map_cons, renI] at this ⊢
          simp [stepG, stepG.exec, this, ren]
        split
        · rename_i hb
          refine go_todo hm h (c1 _ rfl) fun cs => step_lone_go ?_
          rw [hev true hb]; simp [renI]
        · rename_i hb
          refine go_todo hm h (c1 _ rfl) fun cs => step_lone_go ?_
          rw [hev false hb]; simp [renI]
        · trivial
      · exact toS ht (c2 _ _ rfl rfl) fun cs fn tmps defers kind roundOf => by simp [stepG, stepG.exec, renI]
      · exact toS ht (c2 _ _ rfl rfl) fun cs fn tmps defers kind roundOf => by simp [stepG, stepG.exec, renI]
      · exact toS ht (c2 _ _ rfl rfl) fun cs fn tmps defers kind roundOf => by simp [stepG, stepG.exec, renI]
      · rename_i id
        split
        · rename_i k' he
          refine toS ht (fun y hy => htb y (exitTo_sub he y hy)) fun cs fn tmps defers kind roundOf => ?_
          simp [stepG, stepG.exec, renI, exitTo_map, he]
        · rename_i he
          exact lv ht fun cs fn tmps defers kind roundOf => by simp only [stepG, stepG.exec, List.map_cons, renI, exitTo_map, he, Option.map_none, Option.elim_none]; cases roundOf <;> rfl
      · rename_i l
        split
        · rename_i k' he
          refine toS ht (gotoIn_sub he htb) fun cs fn tmps defers kind roundOf => ?_
          simp [stepG, stepG.exec, renI, gotoIn_map, he]
        · rename_i he
          exact lv ht fun cs fn tmps defers kind roundOf => by simp only [stepG, stepG.exec, List.map_cons, renI, gotoIn_map, he, Option.map_none, Option.elim_none]; cases roundOf <;> rfl
      · rename_i f params as bd
        split
        · rename_i g first cap hr hf
          split
          · rename_i c hc
            have hfe := (h.tmps.ev rf rfl) f _ hf
            simp only [blw, Bool.and_eq_true] at hfe
            -- two new blocks
            have hle1 : n.le (n.up (n.n + 1)) := Dm.le_up (by omega)
            have hle2 : (n.up (n.n + 1)).le (n.up (n.n + 2)) := Dm.le_up (d := n.up (n.n + 1)) (by simp [Dm.up])
            have hno0 : n.has n.n = false := has_n n
            have ex1 := Ex.new' hm (w' := { w with heap := w.heap.push (.deferred (some [])) }) (.deferred (some [])) (s := n.n) (n' := n.up (n.n + 1)) (o := .deferred (some [])) (has_n n) hle1 (hol_up hm.hol (by omega)) (has_up hm.hol) ⟨w.heap.size, 0, 0, false, none⟩ rfl rfl rfl rfl rfl rfl rfl ⟨rfl, by simp, by simp⟩
            have hr1 := h.agree ex1.le ex1.agree
            have hno1 : (n.up (n.n + 1)).has (n.n + 1) = false := has_n (n.up (n.n + 1))
            have hyes1 : (n.up (n.n + 2)).has (n.n + 1) = true := has_up (n := n.up (n.n + 1)) ex1.rel.hol
            have hyes0 : (n.up (n.n + 1)).has n.n = true := has_up hm.hol
            have hr2' : RelF (upd (upd β n.n ⟨w.heap.size, 0, 0, false, none⟩) (n.n + 1) ⟨w.heap.size + 1, 0, 0, false, none⟩) (n.up (n.n + 2)) fr rf := hr1.agree hle2 (fun i hi => upd_fr _ _ hno1 hi)
            have ex2 := Ex.new' ex1.rel (w' := { w with heap := (w.heap.push (.deferred (some []))).push (.loop { state := .ready, pending := none, fn := rf.fn, tmps := rf.tmps, params := params, assign := as, body := bd, defers := w.heap.size }) })
              (.loop { state := .ready, pending := none, fn := rf.fn, tmps := rf.tmps, params := params, assign := as, body := bd, defers := w.heap.size })
              (s := n.n + 1) (n' := n.up (n.n + 2)) (o := .loop .ready none fr.fn fr.nt fr.slots params.toList as bd n.n) hno1 hle2 (hol_up hm.hol (by omega)) hyes1 ⟨w.heap.size + 1, 0, 0, false, none⟩ (by simp) rfl rfl rfl rfl rfl rfl
              ⟨rfl, hle2 _ hyes0, fun t v hv => (hr2'.tmps.2 t v hv).2, rf.tmps, by
                rw [← h.fn]
                have e0 : (upd (upd β n.n ⟨w.heap.size, 0, 0, false, none⟩) (n.n + 1) ⟨w.heap.size + 1, 0, 0, false, none⟩ n.n).blk = w.heap.size := by rw [upd_ne _ _ (by omega), upd_self]
                rw [e0]
                have e1 : w.heap.size + 1 = (w.heap.push (Obj.deferred (some []))).size := by simp
                exact (congrArg _ e1).trans Array.getElem?_push_size, hr2'.tmps.1, fun t v hv => (hr2'.tmps.2 t v hv).1⟩
            have ex := ex1.trans ex2
            generalize hβ : upd (upd β n.n ⟨w.heap.size, 0, 0, false, none⟩) (n.n + 1) ⟨w.heap.size + 1, 0, 0, false, none⟩ = β2 at *
            have hb1 : (β2 (n.n + 1)).blk = w.heap.size + 1 := by rw [← hβ, upd_self]
            have hb0 : (β2 n.n).blk = w.heap.size := by rw [← hβ, upd_ne _ _ (by omega), upd_self]
            have hargs : blwL (n.up (n.n + 2)) (first ++ [.func (.yield (n.n + 1)) #[] #[]] ++ cap) = true := by
              have h1 := blwL_mono ex.le _ hfe.2.2.1
              have h2 := blwL_mono ex.le _ hfe.2.2.2
              simp only [blwL_eq, List.all_append, Bool.and_eq_true] at h1 h2 ⊢
              exact ⟨⟨h1, by simp [blw, blwFn, blwL, hyes1]⟩, h2⟩
            obtain ⟨e1, e2, e3, e4⟩ := enterA_sound (β := β2) (n := n.up (n.n + 2)) hc hargs
            have hro : rf.roundOf = none := by rw [h.round, hr]; rfl
            refine ⟨β2, _, _, { rf with todo := (.inRangeFunc (n.n + 1) :: k).map (renI β2), defers := ({ target := .collected n.n, args := #[] } :: fr.defers).map (renD β2) }, ex, e1,
              ⟨hr2'.fn, hr2'.tmps, rfl, ?_, rfl, ?_, hr2'.mode, hr2'.kind, hr2'.round, hr2'.roundB⟩, ⟨rfl, rfl, rfl⟩, fun cs => step_lone_go ?_, .inl ⟨e2, fun γ k' rx v hx hv => fin_range rfl hx⟩⟩
            · intro y hy
              rcases List.mem_cons.1 hy with rfl | hy
              · exact hyes1
              · exact blwI_mono ex.le (htb y hy)
            · intro y hy
              rcases List.mem_cons.1 hy with rfl | hy
              · simp [blwD, blwT, blwL, hle2 _ hyes0]
              · exact blwD_mono ex.le (h.defersB y hy)
            · have ef : renL β first = renL β2 first := (renL_agree (fun i hi => ex.agree i hi) first hfe.2.2.1).symm
              have ec : renL β cap = renL β2 cap := (renL_agree (fun i hi => ex.agree i hi) cap hfe.2.2.2).symm
              have hrunI := range_call (P := P) h.tmps hf (L := w.heap.size + 1) (w := { w with heap := (w.heap.push (.deferred (some []))).push (.loop { state := .ready, pending := none, fn := rf.fn, tmps := rf.tmps, params := params, assign := as, body := bd, defers := w.heap.size }) })
                (fun as => run_callFunc hc as)
              have eargs : renL β2 (first ++ [.func (.yield (n.n + 1)) #[] #[]] ++ cap) = renL β2 first ++ [Value.func (.yield (w.heap.size + 1)) #[] #[]] ++ renL β2 cap := by
                simp [renL_eq, ren, renFn, hb1]
              rw [ef, ec] at hrunI
              have ht' := hr2'.todo
              have hdf' := hr2'.defers
              rw [eargs]
              obtain ⟨fn', tmps', td, defers, mode, kind, roundOf⟩ := rf
              simp only at ht' hmode hro hdf' hrunI
              rw [ht] at ht'
              subst ht'; subst hmode; subst hro; subst hdf'
              simp only [List.map_cons, renI, renD, renT, hb0, hb1, renL]
              have hr0 := hrunI { fn := fn', tmps := tmps', todo := .inRangeFunc (w.heap.size + 1) :: k.map (renI β2), defers := { target := .collected w.heap.size, args := #[] } :: fr.defers.map (renD β2), mode := .run, kind := kind } rfl
              simp only [stepG, stepG.exec, Instr.enterLoop, Sem.runT_eq, Sem.run_bind, Sem.run_pure, run_newObj, Result.andThen_ok, Array.size_push, stepG.apply, GStep.bare_after, List.cons_append, List.nil_append, hr0]
              rfl
          · trivial
        · rename_i l g first cap hr hf
          split
          · rename_i st0 p0 fn0 nt0 slots0 params0 as0 bd0 ds hg
            split
            · rename_i c hc
              have hfe := (h.tmps.ev rf rfl) f _ hf
              simp only [blw, Bool.and_eq_true] at hfe
              obtain ⟨hl, hn, hlt, tmps0, hget, _⟩ := loop_of (P := P) hm hg
              have hdsn : n.has ds = true := by have := (hm.obj _ _ hg).2; exact this.2.1
              have hle : n.le (n.up (n.n + 1)) := Dm.le_up (by omega)
              have hyes : (n.up (n.n + 1)).has n.n = true := has_up hm.hol
              have hr2' : RelF (upd β n.n ⟨w.heap.size, 0, 0, false, none⟩) (n.up (n.n + 1)) fr rf := h.agree hle (fun i hi => upd_fr _ _ (has_n n) hi)
              have ex := Ex.new' hm (w' := { w with heap := w.heap.push (.loop { state := .ready, pending := none, fn := rf.fn, tmps := rf.tmps, params := params, assign := as, body := bd, defers := (β ds).blk }) })
                (.loop { state := .ready, pending := none, fn := rf.fn, tmps := rf.tmps, params := params, assign := as, body := bd, defers := (β ds).blk })
                (s := n.n) (n' := n.up (n.n + 1)) (o := .loop .ready none fr.fn fr.nt fr.slots params.toList as bd ds) (has_n n) hle (hol_up hm.hol (by omega)) hyes ⟨w.heap.size, 0, 0, false, none⟩ rfl rfl rfl rfl rfl rfl rfl
                ⟨rfl, hle _ hdsn, fun t v hv => (hr2'.tmps.2 t v hv).2, rf.tmps, by
                  rw [← h.fn, upd_fr _ _ (has_n n) hdsn]
                  exact Array.getElem?_push_size, hr2'.tmps.1, fun t v hv => (hr2'.tmps.2 t v hv).1⟩
              generalize hβ : upd β n.n ⟨w.heap.size, 0, 0, false, none⟩ = β2 at *
              have hb1 : (β2 n.n).blk = w.heap.size := by rw [← hβ, upd_self]
              have hargs : blwL (n.up (n.n + 1)) (first ++ [.func (.yield n.n) #[] #[]] ++ cap) = true := by
                have h1 := blwL_mono ex.le _ hfe.2.2.1
                have h2 := blwL_mono ex.le _ hfe.2.2.2
                simp only [blwL_eq, List.all_append, Bool.and_eq_true] at h1 h2 ⊢
                exact ⟨⟨h1, by simp [blw, blwFn, blwL, hyes]⟩, h2⟩
              obtain ⟨e1, e2, e3, e4⟩ := enterA_sound (β := β2) (n := n.up (n.n + 1)) hc hargs
              have hro : rf.roundOf = some (β l).blk := by rw [h.round, hr]; rfl
              refine ⟨β2, _, _, { rf with todo := (.inRangeFunc n.n :: k).map (renI β2) }, ex, e1,
                ⟨hr2'.fn, hr2'.tmps, rfl, ?_, hr2'.defers, hr2'.defersB, hr2'.mode, hr2'.kind, hr2'.round, hr2'.roundB⟩, ⟨rfl, rfl, rfl⟩, fun cs => step_lone_go ?_, .inl ⟨e2, fun γ k' rx v hx hv => fin_range rfl hx⟩⟩
              · intro y hy
                rcases List.mem_cons.1 hy with rfl | hy
                · exact hyes
                · exact blwI_mono ex.le (htb y hy)
              · have ef : renL β first = renL β2 first := (renL_agree (fun i hi => ex.agree i hi) first hfe.2.2.1).symm
                have ec : renL β cap = renL β2 cap := (renL_agree (fun i hi => ex.agree i hi) cap hfe.2.2.2).symm
                have hrunI := range_call (P := P) h.tmps hf (L := w.heap.size) (w := { w with heap := w.heap.push (.loop { state := .ready, pending := none, fn := rf.fn, tmps := rf.tmps, params := params, assign := as, body := bd, defers := (β ds).blk }) })
                  (fun as => run_callFunc hc as)
                have eargs : renL β2 (first ++ [.func (.yield n.n) #[] #[]] ++ cap) = renL β2 first ++ [Value.func (.yield w.heap.size) #[] #[]] ++ renL β2 cap := by
                  simp [renL_eq, ren, renFn, hb1]
                rw [ef, ec] at hrunI
                have ht' := hr2'.todo
                rw [eargs]
                have hgl := hget w rfl
                obtain ⟨fn', tmps', td, defers, mode, kind, roundOf⟩ := rf
                simp only at ht' hmode hro hrunI
                rw [ht] at ht'
                subst ht'; subst hmode; subst hro
                simp only [List.map_cons, renI, hb1]
                have hr0 := hrunI { fn := fn', tmps := tmps', todo := .inRangeFunc w.heap.size :: k.map (renI β2), defers := defers, mode := .run, kind := kind, roundOf := some (β l).blk } rfl
                simp only [stepG, stepG.exec, Instr.enterLoop, Sem.runT_eq, Sem.run_bind, Sem.run_pure, run_newObj, hgl, Result.andThen_ok, stepG.apply, GStep.bare_after, List.nil_append, hr0]
                rfl
            · trivial
          · trivial
        · trivial
      · rename_i id ops draw
        split
        · trivial
        · rename_i hd
          have hd : draw = false := by simpa using hd
          subst hd
          exact toS ht (c1 _ rfl) fun cs fn tmps defers kind roundOf => by simp [stepG, stepG.exec, renI]
      · trivial
    · rename_i id k ht
      exact toS ht (todoB_tail h ht) fun cs fn tmps defers kind roundOf => by simp [stepG, stepG.exec, renI]
    · rename_i id k ht
      exact toS ht (todoB_tail h ht) fun cs fn tmps defers kind roundOf => by simp [stepG, stepG.exec, renI]
    · rename_i body k ht
      refine toS ht (fun y hy => ?_) fun cs fn tmps defers kind roundOf => by simp [stepG, stepG.exec, renI]
      rcases List.mem_cons.1 hy with rfl | hy
      · rfl
      · exact h.todoB y (by rw [ht]; exact hy)
    · rename_i ops k ht
      have htb := todoB_tail h ht
      refine ⟨β, w, { rf with todo := k.map (renI β) }, Ex.refl hm, ⟨h.fn, ⟨h.tmps.1, fun t v hv => h.tmps.2 t v (lk_prune _ _ _ _ hv)⟩, rfl, htb, h.defers, h.defersB, h.mode, h.kind, h.round, h.roundB⟩, ⟨rfl, rfl, rfl⟩, fun cs => step_lone_go ?_⟩
      have ht' := h.todo
      obtain ⟨fn, tmps, td, defers, mode, kind, roundOf⟩ := rf
      simp only at ht' hmode
      rw [ht] at ht'
      subst ht'; subst hmode
      simp [stepG, stepG.exec, renI]
    · rename_i ops i rest k ht
      split
      · rename_i o ho
        split
        · rename_i hd
          have hdo : ∀ o', ops[i]? = some o' → dstOk fr.nt o'.dst = true := fun o' e => by rw [ho] at e; cases e; exact hd
          split
          · rename_i hw
            exact operA_sound hm h ht hret ho hw hd
          · rename_i hw
            obtain ⟨f1, f2⟩ := fin_region (v := undef) hdo ht h rfl
            refine ⟨β, w, _, Ex.refl hm, f1, f2, fun cs => step_unwanted (by rw [h.todo, ht]; rfl) hmode ho (wantedA_sound h.tmps hw)⟩
          · trivial
        · trivial
      · trivial
    · rename_i k ht
      split
      · rename_i l hr
        split
        · rename_i p fn nt slots params as bd ds hg
          obtain ⟨hl, hn, hlt, tmps, hget, hset⟩ := loop_of (P := P) hm hg
          obtain ⟨hs1, hs2⟩ := hset .busy p
          generalize hW : ({ w with heap := w.heap.setIfInBounds (β l).blk (Obj.loop { state := .busy, pending := p, fn := fn, tmps := tmps, params := params.toArray, assign := as, body := bd, defers := (β ds).blk }) } : World) = w2 at hs1 hs2
          have hrun : (Instr.beginRound (β l).blk).run P w = .ok () w2 := by
            simp only [Instr.beginRound, Sem.run_bind, hget w rfl, Result.andThen_ok]
            refine (congrArg (fun q => Result.andThen q _) hs1).trans ?_
            simp only [Result.andThen_ok, Sem.run_pure]
          have htb := todoB_tail h ht
          refine ⟨β, w2, { rf with todo := k.map (renI β) }, hs2, ⟨h.fn, h.tmps, rfl, htb, h.defers, h.defersB, h.mode, h.kind, h.round, h.roundB⟩, ⟨rfl, rfl, rfl⟩, fun cs => step_lone_go ?_⟩
          have ht' := h.todo
          have hro : rf.roundOf = some (β l).blk := by rw [h.round, hr]; rfl
          obtain ⟨fn', tmps', td, defers, mode, kind, roundOf⟩ := rf
          simp only at ht' hmode hro
          rw [ht] at ht'
          subst ht'; subst hmode; subst hro
          simp [stepG, stepG.exec, renI, stepG.apply, Sem.runT_eq, hrun, Frame.finish]
        · trivial
      · trivial
    · rename_i l k ht
      split
      · rename_i st p fn nt slots params as bd ds hg
        obtain ⟨hl, hn, hlt, tmps, hget, hset⟩ := loop_of (P := P) hm hg
        obtain ⟨hs1, hs2⟩ := hset .exhausted p
        generalize hW : ({ w with heap := w.heap.setIfInBounds (β l).blk (Obj.loop { state := .exhausted, pending := p, fn := fn, tmps := tmps, params := params.toArray, assign := as, body := bd, defers := (β ds).blk }) } : World) = w2 at hs1 hs2
        have hfin : st ≠ .busy → OutS P β n m w rf (.go { fr with todo := (p.map Item.code).toList ++ k } (m.set l (.loop .exhausted p fn nt slots params as bd ds)) n.n) := by
          intro hst
          have hst' : (st == LoopState.busy) = false := by cases st <;> first | rfl | exact absurd rfl hst
          have hrun : (Instr.endLoop (β l).blk).run P w = .ok p w2 := by
            simp only [Instr.endLoop, Sem.run_bind, hget w rfl, Result.andThen_ok, hst', Bool.false_eq_true, if_false]
            refine (congrArg (fun q => Result.andThen q _) hs1).trans ?_
            simp only [Result.andThen_ok, Sem.run_pure]
          have htb := todoB_tail h ht
          have hmap : ((p.map Item.code).toList ++ k).map (renI β) = (p.map Item.code).toList ++ k.map (renI β) := by
            cases p <;> simp [renI]
          refine ⟨β, w2, { rf with todo := ((p.map Item.code).toList ++ k).map (renI β) }, hs2, ⟨h.fn, h.tmps, rfl, fun y hy => ?_, h.defers, h.defersB, h.mode, h.kind, h.round, h.roundB⟩, ⟨rfl, rfl, rfl⟩, fun cs => step_lone_go ?_⟩
          · rcases List.mem_append.1 hy with hy | hy
            · cases p with
              | none => simp at hy
              | some c => simp only [Option.map_some, Option.toList_some, List.mem_singleton] at hy; subst hy; rfl
            · exact htb y hy
          · have ht' := h.todo
            obtain ⟨fn', tmps', td, defers, mode, kind, roundOf⟩ := rf
            simp only at ht' hmode
            rw [ht] at ht'
            subst ht'; subst hmode
            rw [hmap]
            simp [stepG, stepG.exec, renI, Sem.runT_eq, hrun]
        split
        · trivial
        · rename_i hne
          exact hfin fun e => hne e
      · trivial
    · trivial
end
end Go.Ab
