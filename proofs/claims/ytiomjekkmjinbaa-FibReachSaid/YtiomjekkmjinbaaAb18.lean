/- Regions that draw their order: the trace in the text's order. -/
import Derived.Test.YtiomjekkmjinbaaAb17
namespace Go.Ab
open Go

section
variable {P : Program} {rec : AFrame → Mem → Nat → Res} {ops : Array Oper} {b : Array Nat} {n0 : Nat}

/-- What one operation does to the state in the text's order. -/
inductive OpR (P : Program) (rec : AFrame → Mem → Nat → Res) (ops : Array Oper) (b : Array Nat) (n0 i : Nat) (o : Oper) (d d' : Dr) : Value → Prop
  | skip (h1 : wantedA ops d.sl o = some false) (h2 : d' = { d with sl := putO d.sl o.dst undef }) : OpR P rec ops b n0 i o d d' undef
  | alloc (ob : AObj) (v : Value) (h1 : wantedA ops d.sl o = some true) (h2 : evA P (restr o d.sl) o (n0 + i) = some (ob, v))
      (h3 : d' = { d with sl := putO d.sl o.dst v, als := d.als ++ [(i, ob)] }) : OpR P rec ops b n0 i o d d' v
  | quiet (v : Value) (h1 : wantedA ops d.sl o = some true) (h2 : evQ P (addAll n0 (waits d.als (b.getD i 0) d.st.mg) d.st.m) (restr o d.sl) o = some v)
      (h3 : d' = { d with sl := putO d.sl o.dst v, looks := (i, o, restr o d.sl, v) :: d.looks }) : OpR P rec ops b n0 i o d d' v
  | eff (v : Value) (m : Mem) (n : Nat) (h1 : wantedA ops d.sl o = some true) (h2 : d.effs.all (fun e => (b.getD i 0).testBit e) = true)
      (h3 : ∃ rec', RecOk P rec' ∧ drawEff P rec' (addAll n0 (waits d.als (b.getD i 0) d.st.mg) d.st.m) d.st.n (restr o d.sl) o = some (v, m, n))
      (h4 : d' = { d with sl := putO d.sl o.dst v, st := ⟨m, d.st.mg ++ (waits d.als (b.getD i 0) d.st.mg).map (·.1), n⟩, effs := d.effs ++ [i],
                          hist := d.hist ++ [⟨m, d.st.mg ++ (waits d.als (b.getD i 0) d.st.mg).map (·.1), n⟩] }) : OpR P rec ops b n0 i o d d' v

theorem drawOp_cases (hrec : RecOk P rec) {i : Nat} {o : Oper} {d d' : Dr} (h : drawOp P rec ops b n0 i o d = some d') : ∃ v, OpR P rec ops b n0 i o d d' v := by
  unfold drawOp at h
  simp only at h
  split at h
  · cases h
  · rename_i hw; simp only [Option.some.injEq] at h; exact ⟨_, .skip hw h.symm⟩
  · rename_i hw
    split at h
    · split at h
      · rename_i ob v he; simp only [Option.some.injEq] at h; exact ⟨_, .alloc ob v hw he h.symm⟩
      · cases h
    · split at h
      · split at h
        · rename_i v hv; simp only [Option.some.injEq] at h; exact ⟨_, .quiet v hw hv h.symm⟩
        · cases h
      · split at h
        · rename_i he
          split at h
          · rename_i v m n hd; simp only [Option.some.injEq] at h; exact ⟨_, .eff v m n hw he ⟨rec, hrec, hd⟩ h.symm⟩
          · cases h
        · cases h

theorem drawOps_trace : ∀ {l : List (Oper × Nat)} {d0 d : Dr}, drawOps P rec ops b n0 l d0 = some d →
    ∃ D : Nat → Dr, D 0 = d0 ∧ D l.length = d ∧ ∀ k x, l[k]? = some x → drawOp P rec ops b n0 x.2 x.1 (D k) = some (D (k + 1))
  | [], d0, d, h => by
    simp only [drawOps, Option.some.injEq] at h; subst h
    exact ⟨fun _ => d0, rfl, rfl, fun k x hx => by simp at hx⟩
  | (o, i) :: l, d0, d, h => by
    simp only [drawOps] at h
    split at h
    · rename_i d1 h1
      obtain ⟨D, hD0, hD1, hD2⟩ := drawOps_trace h
      refine ⟨fun k => match k with | 0 => d0 | k + 1 => D k, rfl, hD1, fun k x hx => ?_⟩
      cases k with
      | zero =>
        simp only [List.getElem?_cons_zero, Option.some.injEq] at hx; subst hx
        simp only [hD0]; exact h1
      | succ k => exact hD2 k x (by simpa using hx)
    · cases h

/-- The whole trace. -/
structure Tra (P : Program) (rec : AFrame → Mem → Nat → Res) (ops : Array Oper) (b : Array Nat) (n0 : Nat) (d0 : Dr) (D : Nat → Dr) (V : Nat → Value) : Prop where
  zero : D 0 = d0
  op : ∀ i o, ops[i]? = some o → OpR P rec ops b n0 i o (D i) (D (i + 1)) (V i)

theorem tra_of (hrec : RecOk P rec) {d0 d : Dr} (h : drawOps P rec ops b n0 ops.toList.zipIdx d0 = some d) : ∃ D V, Tra P rec ops b n0 d0 D V ∧ D ops.size = d := by
  obtain ⟨D, h0, h1, h2⟩ := drawOps_trace h
  have hex : ∀ i, ∃ v, ∀ o, ops[i]? = some o → OpR P rec ops b n0 i o (D i) (D (i + 1)) v := by
    intro i
    cases ho : ops[i]? with
    | none => exact ⟨undef, fun o h => by cases h⟩
    | some o =>
      have hx : ops.toList.zipIdx[i]? = some (o, i) := by
        rw [List.getElem?_zipIdx]
        simp [ho]
      obtain ⟨v, hv⟩ := drawOp_cases hrec (h2 i (o, i) hx)
      exact ⟨v, fun o' h' => by cases h'; exact hv⟩
  obtain ⟨V, hV⟩ := Classical.skolem.1 hex
  refine ⟨D, V, ⟨h0, fun i o ho => hV i o ho⟩, ?_⟩
  rw [← h1]; simp

variable {D : Nat → Dr} {V : Nat → Value} {sl0 : Slots} {m0 : Mem}

/-- The state at the beginning. -/
def dr0 (sl0 : Slots) (m0 : Mem) (n0 size : Nat) : Dr := { sl := sl0, st := ⟨m0, [], n0 + size⟩, als := [], effs := [], hist := [⟨m0, [], n0 + size⟩], looks := [] }

theorem Tra.als_ext (t : Tra P rec ops b n0 (dr0 sl0 m0 n0 ops.size) D V) : ∀ i, i ≤ ops.size → (∀ x ∈ (D i).als, x.1 < i) ∧ ((D i).als.map (·.1)).Nodup ∧
    (∀ e ∈ (D i).effs, e < i) ∧ (D i).effs.Nodup ∧ (D i).hist.length = (D i).effs.length + 1 ∧ (D i).hist[(D i).effs.length]? = some (D i).st := by
  intro i
  induction i with
  | zero => intro _; rw [t.zero]; simp [dr0]
  | succ i ih =>
    intro hi
    obtain ⟨h1, h2, h3, h4, h5, h6⟩ := ih (by omega)
    have hop := t.op i ops[i] (by simp [show i < ops.size by omega])
    generalize V i = v0 at hop
    have up : ∀ x ∈ (D i).als, x.1 < i + 1 := fun x hx => Nat.lt_succ_of_lt (h1 x hx)
    have up2 : ∀ x ∈ (D i).effs, x < i + 1 := fun x hx => Nat.lt_succ_of_lt (h3 x hx)
    cases hop with
    | skip e1 e2 => rw [e2]; exact ⟨up, h2, up2, h4, h5, h6⟩
    | alloc ob v e1 e2 e3 =>
      rw [e3]
      refine ⟨fun x hx => ?_, ?_, up2, h4, h5, h6⟩
      · rcases List.mem_append.1 hx with hx | hx
        · exact up x hx
        · simp only [List.mem_singleton] at hx; subst hx; exact Nat.lt_succ_self _
      · simp only [List.map_append, List.map_cons, List.map_nil]
        rw [List.nodup_append]
        refine ⟨h2, by simp, fun a ha c hc => ?_⟩
        obtain ⟨x, hx, rfl⟩ := List.mem_map.1 ha
        simp only [List.mem_singleton] at hc; subst hc
        exact Nat.ne_of_lt (h1 x hx)
    | quiet v e1 e2 e3 => rw [e3]; exact ⟨up, h2, up2, h4, h5, h6⟩
    | eff v m n e1 e2 e3 e4 =>
      rw [e4]
      refine ⟨up, h2, fun x hx => ?_, ?_, ?_, ?_⟩
      · rcases List.mem_append.1 hx with hx | hx
        · exact up2 x hx
        · simp only [List.mem_singleton] at hx; subst hx; exact Nat.lt_succ_self _
      · rw [List.nodup_append]
        refine ⟨h4, by simp, fun a ha c hc => ?_⟩
        simp only [List.mem_singleton] at hc; subst hc
        exact Nat.ne_of_lt (h3 a ha)
      · simp [h5]
      · simp only [List.length_append, List.length_singleton]
        rw [← h5, List.getElem?_append_right (Nat.le_refl _)]
        simp

/-- What comes later is behind. -/
theorem Tra.later (t : Tra P rec ops b n0 (dr0 sl0 m0 n0 ops.size) D V) : ∀ k i, i + k ≤ ops.size → (∃ ea, (D (i + k)).als = (D i).als ++ ea ∧ ∀ x ∈ ea, i ≤ x.1) ∧
    (∃ ee, (D (i + k)).effs = (D i).effs ++ ee ∧ ∀ x ∈ ee, i ≤ x) ∧ (∃ eh, (D (i + k)).hist = (D i).hist ++ eh) ∧ (∃ el, (D (i + k)).looks = el ++ (D i).looks) := by
  intro k
  induction k with
  | zero => intro i _; exact ⟨⟨[], by simp, by simp⟩, ⟨[], by simp, by simp⟩, ⟨[], by simp⟩, ⟨[], by simp⟩⟩
  | succ k ih =>
    intro i hi
    obtain ⟨⟨ea, a1, a2⟩, ⟨ee, e1, e2⟩, ⟨eh, h1⟩, ⟨el, l1⟩⟩ := ih i (by omega)
    have hop := t.op (i + k) ops[i + k] (by simp [show i + k < ops.size by omega])
    rw [show i + (k + 1) = i + k + 1 from rfl]
    generalize V (i + k) = v0 at hop
    cases hop with
    | skip x1 x2 => rw [x2]; exact ⟨⟨ea, a1, a2⟩, ⟨ee, e1, e2⟩, ⟨eh, h1⟩, ⟨el, l1⟩⟩
    | alloc ob v x1 x2 x3 =>
      rw [x3]
      refine ⟨⟨ea ++ [(i + k, ob)], by simp [a1], fun x hx => ?_⟩, ⟨ee, e1, e2⟩, ⟨eh, h1⟩, ⟨el, l1⟩⟩
      rcases List.mem_append.1 hx with hx | hx
      · exact a2 x hx
      · simp only [List.mem_singleton] at hx; subst hx; exact Nat.le_add_right _ _
    | quiet v x1 x2 x3 => rw [x3]; exact ⟨⟨ea, a1, a2⟩, ⟨ee, e1, e2⟩, ⟨eh, h1⟩, ⟨(i + k, ops[i + k], restr ops[i + k] (D (i + k)).sl, v0) :: el, by simp [l1]⟩⟩
    | eff v m n x1 x2 x3 x4 =>
      rw [x4]
      refine ⟨⟨ea, a1, a2⟩, ⟨ee ++ [i + k], by simp [e1], fun x hx => ?_⟩, ⟨eh ++ [_], by simp [h1]; rfl⟩, ⟨el, l1⟩⟩
      rcases List.mem_append.1 hx with hx | hx
      · exact e2 x hx
      · simp only [List.mem_singleton] at hx; subst hx; exact Nat.le_add_right _ _

/-- The slots behind the operations of S. -/
def sls (ops : Array Oper) (V : Nat → Value) (sl0 : Slots) (S : Nat → Bool) : Nat → Slots
  | 0 => sl0
  | k + 1 => if S k then match ops[k]? with
      | some o => putO (sls ops V sl0 S k) o.dst (V k)
      | none => sls ops V sl0 S k
    else sls ops V sl0 S k

theorem lk_putO (sl : Slots) (d : Option Tmp) (x : Value) (s : Nat) : lk (putO sl d x) s = if d = some s then some x else lk sl s := by
  cases d with
  | none => simp [putO]
  | some t => simp [putO, lk_put]

theorem lk_sls {S S' : Nat → Bool} {s : Nat} : ∀ K, (∀ k o, k < K → ops[k]? = some o → o.dst = some s → S k = S' k) → lk (sls ops V sl0 S K) s = lk (sls ops V sl0 S' K) s := by
  intro K
  induction K with
  | zero => intro _; rfl
  | succ K ih =>
    intro h
    have ih := ih fun k o hk => h k o (Nat.lt_succ_of_lt hk)
    simp only [sls]
    cases ho : ops[K]? with
    | none => simp [ih]
    | some o =>
      simp only
      by_cases hd : o.dst = some s
      · have := h K o (Nat.lt_succ_self _) ho hd
        rw [this]
        split
        · rw [lk_putO, lk_putO, if_pos hd, if_pos hd]
        · exact ih
      · have e : ∀ (c : Bool) (x : Slots), lk (if c = true then putO x o.dst (V K) else x) s = lk x s := by
          intro c x
          split
          · rw [lk_putO, if_neg hd]
          · rfl
        rw [e, e]; exact ih

theorem sls_cut (i : Nat) : ∀ K, i ≤ K → sls ops V sl0 (fun k => decide (k < i)) K = sls ops V sl0 (fun _ => true) i := by
  intro K
  induction K with
  | zero =>
    intro h
    have : i = 0 := by omega
    subst this; rfl
  | succ K ih =>
    intro h
    by_cases he : i = K + 1
    · subst he
      have : ∀ J, J ≤ K + 1 → sls ops V sl0 (fun k => decide (k < K + 1)) J = sls ops V sl0 (fun _ => true) J := by
        intro J
        induction J with
        | zero => intro _; rfl
        | succ J ihJ =>
          intro hJ
          have hlt : J < K + 1 := by omega
          simp only [sls, hlt, decide_true, if_true, ihJ (by omega)]
      exact this (K + 1) (Nat.le_refl _)
    · simp only [sls, show ¬ K < i by omega, decide_false, Bool.false_eq_true, if_false]
      exact ih (by omega)

theorem Tra.sl_eq (t : Tra P rec ops b n0 (dr0 sl0 m0 n0 ops.size) D V) : ∀ i, i ≤ ops.size → (D i).sl = sls ops V sl0 (fun _ => true) i := by
  intro i
  induction i with
  | zero => intro _; rw [t.zero]; rfl
  | succ i ih =>
    intro hi
    have hg : ops[i]? = some ops[i] := by simp [show i < ops.size by omega]
    have hop := t.op i ops[i] hg
    simp only [sls, if_true, hg]
    rw [← ih (by omega)]
    generalize hv : V i = v at hop
    cases hop with
    | skip e1 e2 => rw [e2]
    | alloc ob v e1 e2 e3 => rw [e3]
    | quiet v e1 e2 e3 => rw [e3]
    | eff v m n e1 e2 e3 e4 => rw [e4]
end
end Go.Ab
