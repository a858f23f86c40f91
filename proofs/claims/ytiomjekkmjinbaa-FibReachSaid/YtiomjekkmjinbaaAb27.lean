/- The kernel's evaluator is sound for W. -/
import Derived.Test.YtiomjekkmjinbaaAb26
namespace Go.Ab
open Go

section
variable {P : Program}

theorem W.slots {fr : AFrame} {m : Mem} {n : Nat} {Q : Value → Mem → Nat → Prop} {sl : Slots} (hs : ∀ t v, lk sl t = some v → lk fr.slots t = some v) (h : W P { fr with slots := sl } m n Q) : W P fr m n Q :=
  fun H β w rf hf hm => h H β w rf (hf.slots hs) hm

theorem genK_sound {ev : AFrame → Mem → Nat → Res} (he : RecOk P ev) {fr : AFrame} {m : Mem} {n : Nat} {rs : List (Value × Mem × Nat)} (h : genK P ev fr m n = some rs) : W P fr m n fun v m n => (v, m, n) ∈ rs := by
  unfold genK at h
  split at h
  · rename_i fr' m' n' hs
    exact W.go (fun _ => none) hs (he _ _ _ _ h)
  · rename_i c fr' m' n' hs
    split at h
    · cases h
    · rename_i rs1 h1
      refine W.call (fun _ => none) hs (he _ _ _ _ h1) fun v m2 n2 hv => ?_
      obtain ⟨o, ho, hsub⟩ := bindAll_mem h v m2 n2 hv
      exact (he _ _ _ _ ho).mono fun v m n hx => hsub _ hx
  · rename_i l hs
    refine W.alts (fun _ => none) hs fun x hx => ?_
    obtain ⟨o, ho, hsub⟩ := bindFr_mem h x hx
    exact (he _ _ _ _ ho).mono fun v m n hx => hsub _ hx
  · cases h
  · rename_i v m' n' hs
    simp only [Option.some.injEq] at h; subst h
    exact W.ret (fun _ => none) hs (List.mem_singleton.2 rfl)
  · cases h

/-- What the evaluator of frames must be. -/
def EvOk (P : Program) (ev : Ev) : Prop :=
  ∀ fn nt sl todo ds ret kind round m n rs, ev fn nt sl todo ds ret kind round m n = some rs → W P ⟨fn, nt, sl, todo, ds, ret, kind, round⟩ m n fun v m n => (v, m, n) ∈ rs
theorem EvOk.rec {ev : Ev} (h : EvOk P ev) : RecOk P (evF ev) := by
  intro c m n rs hr
  obtain ⟨a, b, c, d, e, g, i, j⟩ := c
  exact h _ _ _ _ _ _ _ _ _ _ _ hr

theorem enterA_kind {f : FuncId} {args : List Value} {k : CallKind} {c : AFrame} (h : enterA P f args k = some c) : c.kind = k := by
  unfold enterA at h
  split at h
  · split at h
    · split at h
      · cases h
      · simp only [Option.some.injEq] at h; subst h; rfl
    · cases h
  · cases h

theorem reg_sound {call : AFrame → Mem → Nat → Res} (hc : RecOk P call) {ops : Array Oper} {fn : FuncId} {nt : Nat} {k : List Item} {kind : CallKind} {round : Option Nat} {K : Slots → List Deferred → Mem → Nat → Res}
    (hd : ∀ d ∈ dsts ops, dstOk nt d = true)
    (hK : ∀ sl ds m n rs, K sl ds m n = some rs → W P ⟨fn, nt, sl, .inRegion ops [] :: k, ds, false, kind, round⟩ m n fun v m n => (v, m, n) ∈ rs) :
    ∀ (os pre : List Oper), ops.toList = pre ++ os → ∀ sl ds m n rs, regK P call ops round K os sl ds m n = some rs →
      W P ⟨fn, nt, sl, .inRegion ops (List.range' pre.length os.length) :: k, ds, false, kind, round⟩ m n fun v m n => (v, m, n) ∈ rs := by
  intro os
  induction os with
  | nil => intro pre _ sl ds m n rs h; exact hK sl ds m n rs h
  | cons o os ih =>
    intro pre hp sl ds m n rs h
    have ho : ops[pre.length]? = some o := by
      rw [← Array.getElem?_toList, hp, List.getElem?_append_right (Nat.le_refl _)]; simp
    have hdo : dstOk nt o.dst = true := hd _ (List.mem_map.2 ⟨o, by rw [hp]; simp, rfl⟩)
    have hih : ∀ sl ds m n rs, regK P call ops round K os sl ds m n = some rs → W P ⟨fn, nt, sl, .inRegion ops (List.range' (pre.length + 1) os.length) :: k, ds, false, kind, round⟩ m n fun v m n => (v, m, n) ∈ rs := by
      intro sl ds m n rs h
      have := ih (pre ++ [o]) (by rw [hp]; simp) sl ds m n rs h
      simpa using this
    have hfin : ∀ v ds', finA ⟨fn, nt, sl, .inRegion ops (pre.length :: List.range' (pre.length + 1) os.length) :: k, ds', false, kind, round⟩ v =
        ⟨fn, nt, putO sl o.dst v, .inRegion ops (List.range' (pre.length + 1) os.length) :: k, ds', false, kind, round⟩ := by
      intro v ds'
      simp [finA, ho]
    have hrng : List.range' pre.length (o :: os).length = pre.length :: List.range' (pre.length + 1) os.length := by simp [List.range'_succ]
    rw [hrng]
    have hst : stepA P (fun _ => none) ⟨fn, nt, sl, .inRegion ops (pre.length :: List.range' (pre.length + 1) os.length) :: k, ds, false, kind, round⟩ m n =
        match wantedA ops sl o with
        | some true => operA P ⟨fn, nt, sl, .inRegion ops (pre.length :: List.range' (pre.length + 1) os.length) :: k, ds, false, kind, round⟩ o m n
        | some false => .go (finA ⟨fn, nt, sl, .inRegion ops (pre.length :: List.range' (pre.length + 1) os.length) :: k, ds, false, kind, round⟩ undef) m n
        | none => .fail := by
      simp only [stepA, ho, hdo, if_true, Bool.false_eq_true, if_false]
      rfl
    simp only [regK, wantK_eq] at h
    have called : ∀ c : AFrame, c.kind = .normal → stepA P (fun _ => none) ⟨fn, nt, sl, .inRegion ops (pre.length :: List.range' (pre.length + 1) os.length) :: k, ds, false, kind, round⟩ m n =
          .call c ⟨fn, nt, sl, .inRegion ops (pre.length :: List.range' (pre.length + 1) os.length) :: k, ds, false, kind, round⟩ m n →
        contK P call (some c) m n (fun v m n => regK P call ops round K os (putO sl o.dst v) ds m n) = some rs →
        W P ⟨fn, nt, sl, .inRegion ops (pre.length :: List.range' (pre.length + 1) os.length) :: k, ds, false, kind, round⟩ m n fun v m n => (v, m, n) ∈ rs := by
      intro c hk hs hh
      simp only [contK] at hh
      split at hh
      · cases hh
      · rename_i rs1 h1
        refine W.call (fun _ => none) hs (hc _ _ _ _ h1) fun v m2 n2 hv => ?_
        obtain ⟨x, hx, hsub⟩ := bindAll_mem hh v m2 n2 hv
        rw [hk]
        simp only [afterA]
        rw [hfin]
        exact (hih _ _ _ _ _ hx).mono fun v m n hx => hsub _ hx
    cases hw : wantedA ops sl o with
    | none => rw [hw] at h; cases h
    | some b =>
      rw [hw] at h hst
      cases b with
      | false =>
        simp only [oneK] at h
        simp only [hfin] at hst
        exact W.go (fun _ => none) hst (hih _ _ _ _ _ h)
      | true =>
        simp only [oneK, evOpX_eq] at h
        simp only [operA] at hst
        cases he : evOp P m n sl o with
        | val v m' n' =>
          rw [he] at h hst
          simp only [effK] at h
          simp only [hfin] at hst
          exact W.go (fun _ => none) hst (hih _ _ _ _ _ h)
        | call f args =>
          rw [he] at h hst
          simp only [effK] at h
          simp only at hst
          cases hen : enterA P f args .normal with
          | none => rw [hen] at h; cases h
          | some c =>
            rw [hen] at h hst
            exact called c (enterA_kind hen) hst h
        | yield l args =>
          rw [he] at h hst
          simp only [effK] at h
          simp only at hst
          cases hen : roundA m l args with
          | none => rw [hen] at h; cases h
          | some c =>
            rw [hen] at h hst
            refine called c ?_ hst h
            unfold roundA at hen
            split at hen
            · split at hen
              · simp only [Option.some.injEq] at hen; subst hen; rfl
              · cases hen
            · cases hen
        | dfr d =>
          rw [he] at h hst
          simp only [effK] at h
          cases round with
          | some l => cases h
          | none =>
            simp only [dfrK] at h
            simp only [hfin] at hst
            exact W.go (fun _ => none) hst (hih _ _ _ _ _ h)
        | alts l =>
          rw [he] at h hst
          simp only [effK] at h
          simp only at hst
          refine W.alts (fun _ => none) hst fun x hx => ?_
          obtain ⟨y, hy, rfl⟩ := List.mem_map.1 hx
          obtain ⟨v, m', n'⟩ := y
          obtain ⟨z, hz, hsub⟩ := bindAll_mem h v m' n' hy
          simp only [hfin]
          exact (hih _ _ _ _ _ hz).mono fun v m n hx => hsub _ hx
        | fail => rw [he] at h; cases h

theorem endK_lk {keep : FuncId → Option (List Nat)} {ops : Array Oper} {fn : FuncId} {sl : Slots} {t : Nat} {v : Value} (h : lk (endK keep ops fn sl) t = some v) : lk sl t = some v := by
  unfold endK at h
  split at h
  · exact lk_pruneK h
  · exact h

theorem stepK_sound (hd : DrawOk P) {keep : FuncId → Option (List Nat)} {ev : Ev} (he : EvOk P ev) : EvOk P (stepK P keep ev) := by
  intro fn nt sl todo ds ret kind round m n rs h
  unfold stepK at h
  split at h
  · exact genK_sound he.rec h
  · split at h
    · exact genK_sound he.rec h
    · rename_i x k
      unfold itemK at h
      split at h
      · rename_i c
        unfold codeK at h
        split at h
        · exact W.go (fun _ => none) rfl (he _ _ _ _ _ _ _ _ _ _ _ h)
        · exact W.go (fun _ => none) rfl (he _ _ _ _ _ _ _ _ _ _ _ h)
        · exact W.go (fun _ => none) rfl (he _ _ _ _ _ _ _ _ _ _ _ h)
        · rename_i c x y
          rw [evOK_eq] at h
          unfold condK at h
          split at h
          · rename_i hc
            exact W.go (fun _ => none) (by simp [stepA, hc]) (he _ _ _ _ _ _ _ _ _ _ _ h)
          · rename_i hc
            exact W.go (fun _ => none) (by simp [stepA, hc]) (he _ _ _ _ _ _ _ _ _ _ _ h)
          · cases h
        · exact W.go (fun _ => none) rfl (he _ _ _ _ _ _ _ _ _ _ _ h)
        · exact W.go (fun _ => none) rfl (he _ _ _ _ _ _ _ _ _ _ _ h)
        · exact W.go (fun _ => none) rfl (he _ _ _ _ _ _ _ _ _ _ _ h)
        · rename_i id ops draw
          unfold regionK at h
          split at h
          · rename_i hmx
            have hds := maxD_ok hmx
            split at h
            · rw [drawAX_eq] at h
              unfold drawK at h
              split at h
              · rename_i sl' m' n' hdr
                exact hd (fun _ => none) _ he.rec _ _ _ _ _ _ _ _ _ _ _ rfl hdr (W.slots (fun t v ht => lk_pruneK ht) (he _ _ _ _ _ _ _ _ _ _ _ h))
              · cases h
            · refine W.go (fun _ => none) rfl ?_
              have := reg_sound he.rec (fn := fn) (nt := nt) (k := k) (kind := kind) hds (fun sl ds m n rs hk => ?_) ops.toList [] rfl sl ds m n rs h
              · simpa [List.range_eq_range'] using this
              · exact W.go (fun _ => none) rfl (W.slots (fun t v ht => endK_lk ht) (he _ _ _ _ _ _ _ _ _ _ _ hk))
          · cases h
        · exact genK_sound he.rec h
      · exact W.go (fun _ => none) rfl (he _ _ _ _ _ _ _ _ _ _ _ h)
      · exact W.go (fun _ => none) rfl (he _ _ _ _ _ _ _ _ _ _ _ h)
      · rename_i body
        exact W.go (fun _ => none) rfl (W.slots (fun t v ht => lk_pruneK ht) (he _ _ _ _ _ _ _ _ _ _ _ h))
      · exact genK_sound he.rec h

theorem evK_sound (hd : DrawOk P) (keep : FuncId → Option (List Nat)) : ∀ f, EvOk P (evK P keep f)
  | 0 => fun fn nt sl todo ds ret kind round m n rs h => by cases h
  | f + 1 => stepK_sound hd (evK_sound hd keep f)

/-- The closed call, by the kernel's evaluator. -/
theorem closedK (hd : DrawOk P) {keep : FuncId → Option (List Nat)} {fuel : Nat} {f : FuncId} (h : allTrue (callK P keep fuel f [] .leaf 0) = true) (w : World) :
    Calls P f #[] w fun e w' => e = .returned (.bool true) ∧ RowKit.Below w.heap.size w w' := by
  unfold callK at h
  split at h
  · rename_i fr hen
    cases hr : evF (evK P keep fuel) fr .leaf 0 with
    | none => rw [hr] at h; simp [allTrue] at h
    | some rs =>
      rw [hr] at h
      have hw := (evK_sound hd keep fuel).rec fr .leaf 0 rs hr
      refine Calls.mono (W.calls hen hw (relM_nil (fun _ => ⟨0, 0, 0, false, none⟩) w) (by rfl)) fun e w' ⟨v, m', n', β', q, h1, h2, _⟩ => ?_
      simp only [allTrue, List.all_eq_true] at h
      have := h _ q
      have hv : v = .bool true := by
        cases v with
        | bool b => cases b <;> simp [isTrue] at this ⊢
        | _ => simp [isTrue] at this
      subst hv
      exact ⟨h1, h2.below fun i o hg => by simp [Tr.get] at hg⟩
  · simp [allTrue] at h
end
end Go.Ab
