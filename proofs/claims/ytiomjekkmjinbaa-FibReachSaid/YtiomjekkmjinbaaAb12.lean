/- One step of the abstract frame is one of the real frame. -/
import Derived.Test.YtiomjekkmjinbaaAb11
namespace Go.Ab
open Go

def renI (β : Beta) : Item → Item
  | .inRangeFunc l => .inRangeFunc (β l).blk
  | .endRangeFunc l => .endRangeFunc (β l).blk
  | x => x
def blwI (n : Dm) : Item → Bool
  | .inRangeFunc l | .endRangeFunc l => n.has l
  | .call .. | .extern .. => false
  | _ => true

structure RelF (β : Beta) (n : Dm) (fr : AFrame) (rf : Frame) : Prop where
  fn : rf.fn = fr.fn
  tmps : RelT β n fr.nt fr.slots rf.tmps
  todo : rf.todo = fr.todo.map (renI β)
  todoB : ∀ x ∈ fr.todo, blwI n x = true
  defers : rf.defers = fr.defers.map (renD β)
  defersB : ∀ d ∈ fr.defers, blwD n d = true
  mode : rf.mode = if fr.ret then .returning else .run
  kind : rf.kind = fr.kind
  round : rf.roundOf = fr.round.map fun l => (β l).blk
  roundB : ∀ l, fr.round = some l → n.has l = true

theorem renI_agree {β γ : Beta} {n : Dm} (h : ∀ i, n.has i = true → γ i = β i) {x : Item} (hx : blwI n x = true) : renI γ x = renI β x := by
  cases x <;> simp_all [renI, blwI]
theorem blwI_mono {n k : Dm} (h : n.le k) {x : Item} (hx : blwI n x = true) : blwI k x = true := by
  cases x <;> simp_all [blwI] <;> exact h _ hx

theorem RelF.agree {β γ : Beta} {n k : Dm} {fr : AFrame} {rf : Frame} (h : RelF β n fr rf) (hk : n.le k) (ha : ∀ i, n.has i = true → γ i = β i) : RelF γ k fr rf where
  fn := h.fn
  tmps := h.tmps.agree hk ha
  todo := by rw [h.todo]; exact List.map_congr_left fun x hx => (renI_agree ha (h.todoB x hx)).symm
  todoB x hx := blwI_mono hk (h.todoB x hx)
  defers := by rw [h.defers]; exact List.map_congr_left fun x hx => (renD_agree ha (h.defersB x hx)).symm
  defersB x hx := blwD_mono hk (h.defersB x hx)
  mode := h.mode
  kind := h.kind
  round := by
    rw [h.round]
    cases hr : fr.round with
    | none => rfl
    | some l => simp [ha l (h.roundB l hr)]
  roundB l hl := hk _ (h.roundB l hl)

/-- At the end of a frame: what it hands back, and the world behind it. -/
def Done (P : Program) (fr : Frame) (w1 : World) (v : Value) (w' : World) : Prop :=
  (fr.roundOf = none ∧ w1 = w' ∧ fr.mode = .returning ∧ fr.defers = [] ∧ ∃ fn, P.funcs[fr.fn]? = some fn ∧ (results fn fr.tmps).run P w' = .ok v w') ∨
  (fr.roundOf.isSome = true ∧ fr.kind = .normal ∧ ∀ c cs, step P (lone fr (c :: cs) w1) = .next (lone (c.finish v) cs w'))

structure Same (rf rf' : Frame) : Prop where
  kind : rf'.kind = rf.kind
  fn : rf'.fn = rf.fn
  round : rf'.roundOf = rf.roundOf
theorem Same.refl (rf : Frame) : Same rf rf := ⟨rfl, rfl, rfl⟩
theorem Same.trans {a b c : Frame} (h : Same a b) (k : Same b c) : Same a c := ⟨k.kind.trans h.kind, k.fn.trans h.fn, k.round.trans h.round⟩

theorem leave_normal {P : Program} {fr c : Frame} {cs : List Frame} {w1 w' : World} {v : Value} (h : Done P fr w1 v w') (hk : fr.kind = .normal) :
    step P (lone fr (c :: cs) w1) = .next (lone (c.finish v) cs w') := by
  rcases h with ⟨h1, rfl, h2, h3, fn, h4, h5⟩ | ⟨_, _, h⟩
  · exact step_leave_returned ⟨h2, h3, hk, fn, h4, h5⟩
  · exact h c cs
theorem leave_deferred {P : Program} {fr c : Frame} {cs : List Frame} {w1 w' : World} {v : Value} (h : Done P fr w1 v w') (hk : fr.kind = .deferred) (hc : c.mode = .returning) :
    step P (lone fr (c :: cs) w1) = .next (lone c cs w') := by
  rcases h with ⟨h1, rfl, h2, h3, fn, h4, h5⟩ | ⟨_, h6, _⟩
  · refine step_lone_go ?_
    obtain ⟨fn', tmps, todo, defers, mode, kind, roundOf⟩ := c
    simp only at hc
    subst hc
    simp [stepG, unwind, doReturn, h2, h3, hk, h4, h5, Sem.runT_eq]
  · rw [hk] at h6; cases h6

/-- What an abstract step says of the real machine. -/
def OutS (P : Program) (β : Beta) (n : Dm) (m : Mem) (w : World) (rf : Frame) : Out → Prop
  | .go fr' m' n' => ∃ β' w' rf', Ex β n m w β' (n.up n') m' w' ∧ RelF β' (n.up n') fr' rf' ∧ Same rf rf' ∧ ∀ cs, step P (lone rf cs w) = .next (lone rf' cs w')
  | .call c fr' m' n' => ∃ β' w' rc rf', Ex β n m w β' (n.up n') m' w' ∧ RelF β' (n.up n') c rc ∧ RelF β' (n.up n') fr' rf' ∧ Same rf rf' ∧ (∀ cs, step P (lone rf cs w) = .next (lone rc (rf' :: cs) w')) ∧
      ((c.kind = .normal ∧ ∀ γ k rx v, RelF γ k fr' rx → blw k v = true → RelF γ k (finA fr' v) (rx.finish (ren γ v)) ∧ Same rx (rx.finish (ren γ v))) ∨ (c.kind = .deferred ∧ fr'.ret = true))
  | .alts l => ∃ x ∈ l, ∃ β' w' rf', Ex β n m w β' (n.up x.2.2) x.2.1 w' ∧ RelF β' (n.up x.2.2) x.1 rf' ∧ Same rf rf' ∧ ∀ cs, step P (lone rf cs w) = .next (lone rf' cs w')
  | .draw .. => True
  | .ret v m' n' => ∃ β' w', Ex β n m w β' (n.up n') m' w' ∧ blw (n.up n') v = true ∧ Done P rf w (ren β' v) w'
  | .fail => True

section
variable {P : Program} {β : Beta} {n : Dm} {m : Mem} {w : World} {fr : AFrame} {rf : Frame}

theorem fin_region {γ : Beta} {k : Dm} {rx : Frame} {v : Value} {ops : Array Oper} {i : Nat} {rest : List Nat} {kk : List Item} (hd : ∀ o, ops[i]? = some o → dstOk fr.nt o.dst = true) (ht : fr.todo = .inRegion ops (i :: rest) :: kk)
    (h : RelF γ k fr rx) (hv : blw k v = true) : RelF γ k (finA fr v) (rx.finish (ren γ v)) ∧ Same rx (rx.finish (ren γ v)) := by
  obtain ⟨fn, tmps, todo, defers, mode, kind, roundOf⟩ := rx
  have htd := h.todo
  simp only [ht, List.map_cons, renI] at htd
  subst htd
  have hput : RelT γ k fr.nt (putO fr.slots ((ops[i]?).bind (·.dst)) v) (match (ops[i]?).bind (·.dst) with | some d => tmps.setIfInBounds d (ren γ v) | none => tmps) := by
    cases ho : ops[i]? with
    | none => simpa [putO] using h.tmps
    | some o =>
      have := hd o ho
      cases hdst : o.dst with
      | none => simpa [putO, hdst] using h.tmps
      | some d =>
        simp only [Option.bind_some, hdst, putO]
        rw [hdst] at this
        exact h.tmps.put (by simpa [dstOk] using this) hv
  have htb := h.todoB
  rw [ht] at htb
  refine ⟨?_, ⟨rfl, rfl, rfl⟩⟩
  simp only [finA, ht, Frame.finish]
  exact ⟨h.fn, hput, by simp [renI], fun x hx => by
    rcases List.mem_cons.1 hx with rfl | hx
    · rfl
    · exact htb x (List.mem_cons_of_mem _ hx), h.defers, h.defersB, h.mode, h.kind, h.round, h.roundB⟩

theorem fin_range {γ : Beta} {k : Dm} {rx : Frame} {v : Value} {l : Nat} {kk : List Item} (ht : fr.todo = .inRangeFunc l :: kk)
    (h : RelF γ k fr rx) : RelF γ k (finA fr v) (rx.finish (ren γ v)) ∧ Same rx (rx.finish (ren γ v)) := by
  obtain ⟨fn, tmps, todo, defers, mode, kind, roundOf⟩ := rx
  have htd := h.todo
  simp only [ht, List.map_cons, renI] at htd
  subst htd
  have htb := h.todoB
  rw [ht] at htb
  refine ⟨?_, ⟨rfl, rfl, rfl⟩⟩
  simp only [finA, ht, Frame.finish]
  exact ⟨h.fn, h.tmps, by simp [renI], fun x hx => by
    rcases List.mem_cons.1 hx with rfl | hx
    · exact htb (.inRangeFunc l) (List.mem_cons_self ..)
    · exact htb x (List.mem_cons_of_mem _ hx), h.defers, h.defersB, h.mode, h.kind, h.round, h.roundB⟩

theorem enum_lk : ∀ (l : List Value) (i t : Nat) (v : Value), lk (enum i l) t = some v → i ≤ t ∧ l[t - i]? = some v
  | [], _, _, _, h => by simp [enum, lk] at h
  | x :: l, i, t, v, h => by
    simp only [enum, lk] at h
    split at h
    · rename_i e; subst e
      simp only [Option.some.injEq] at h; subst h
      exact ⟨Nat.le_refl _, by simp⟩
    · obtain ⟨h1, h2⟩ := enum_lk l (i + 1) t v h
      refine ⟨by omega, ?_⟩
      rw [show t - i = (t - (i + 1)) + 1 from by omega, List.getElem?_cons_succ]; exact h2

theorem enterA_sound {f : FuncId} {args : List Value} {k : CallKind} {c : AFrame} (h : enterA P f args k = some c) (hb : blwL n args = true) :
    RelF β n c (Frame.enter P f (renL β args).toArray k) ∧ c.kind = k ∧ c.round = none ∧ c.ret = false := by
  unfold enterA at h
  split at h
  · rename_i fn hf
    split at h
    · rename_i body hbd
      split at h
      · cases h
      · simp only [Option.some.injEq] at h; subst h
        refine ⟨⟨rfl, ⟨?_, fun t v hv => ?_⟩, ?_, ?_, rfl, by simp, rfl, rfl, rfl, by simp⟩, rfl, rfl, rfl⟩
        · simp [Frame.enter, hf, renL_eq]
        · obtain ⟨_, h2⟩ := enum_lk args 0 t v hv
          simp only [Nat.sub_zero] at h2
          have hlt : t < args.length := (List.getElem?_eq_some_iff.1 h2).1
          refine ⟨?_, blwL_get hb h2⟩
          simp only [Frame.enter]
          rw [Array.getElem?_append_left (by simpa [renL_eq] using hlt)]
          simp [renL_eq, h2]
        · simp [Frame.enter, hf, hbd, renI]
        · simp [blwI]
    · cases h
  · cases h

theorem wantedA_sound {ops : Array Oper} {sl : Slots} {nt : Nat} {tmps : Array Value} {o : Oper} {b : Bool} (ht : RelT β n nt sl tmps) (h : wantedA ops sl o = some b) : Region.wanted o (yielded ops tmps) = b := by
  unfold wantedA at h
  unfold Region.wanted
  split at h
  · rename_i hg; simp only [Option.some.injEq] at h; subst h; rw [hg]
  · rename_i j want hg
    rw [hg]
    simp only [yielded]
    split at h
    · rename_i t hj
      split at h
      · rename_i b' hl
        simp only [Option.some.injEq] at h; subst h
        have := (ht.2 t _ hl).1
        simp only [hj, Option.bind_some, this, ren]
        cases b' <;> cases want <;> rfl
      · rename_i u hne hl
        simp only [Option.some.injEq] at h; subst h
        have := (ht.2 t _ hl).1
        simp only [hj, Option.bind_some, this]
        have : ∀ b, ren β u ≠ .bool b := by
          intro b e
          cases u with
          | bool c => exact hne c rfl
          | slice a l c =>
            cases a with
            | none => simp [ren] at e
            | some a =>
              obtain ⟨i, o, s⟩ := a
              obtain ⟨ad, c2, e2⟩ := renSlice_form (β i) o s l c
              simp [ren, e2] at e
          | map r => cases r <;> simp [ren] at e
          | func f a b => cases a; cases b; simp [ren] at e
          | agg c => cases c; simp [ren] at e
          | tuple c => cases c; simp [ren] at e
          | _ => simp [ren] at e
        cases hr : ren β u <;> simp_all
      · cases h
    · rename_i hj
      simp only [Option.some.injEq] at h; subst h
      simp [hj]
end
end Go.Ab
