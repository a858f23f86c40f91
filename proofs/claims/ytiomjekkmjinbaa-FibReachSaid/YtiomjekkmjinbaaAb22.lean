/- Regions that draw their order: one operation, in whatever order. -/
import Derived.Test.YtiomjekkmjinbaaAb21
namespace Go.Ab
open Go

/-- The memory when the operations of S have been carried out and the stage is st. -/
def memS (n0 : Nat) (als : List (Nat × AObj)) (S : Nat → Bool) (st : Stg) : Mem := addAll n0 (als.filter fun x => S x.1 && !st.mg.contains x.1) st.m
/-- The holes then. -/
def holS (H : Nat → Bool) (n0 size : Nat) (als : List (Nat × AObj)) (S : Nat → Bool) : Nat → Bool :=
  fun i => H i || (decide (n0 ≤ i) && (decide (i < n0 + size) && !(S (i - n0) && als.any fun x => x.1 == i - n0)))
def addS (S : Nat → Bool) (i : Nat) : Nat → Bool := fun k => decide (k = i) || S k
theorem addS_self (S : Nat → Bool) (i : Nat) : addS S i i = true := by simp [addS]
theorem addS_ne {S : Nat → Bool} {i k : Nat} (h : k ≠ i) : addS S i k = S k := by simp [addS, h]
theorem addS_of {S : Nat → Bool} {i k : Nat} (h : S k = true) : addS S i k = true := by simp [addS, h]

/-- What drawA looks at. -/
structure Chk (P : Program) (rec : AFrame → Mem → Nat → Res) (ops : Array Oper) (n0 : Nat) (D : Nat → Dr) (V : Nat → Value) (sl0 : Slots) (m0 : Mem) (nt : Nat) : Prop where
  t : Tra P rec ops (Region.before ops) n0 (dr0 sl0 m0 n0 ops.size) D V
  ord : OrdR ops nt
  looks : (D ops.size).effs = [] ∨ ∀ x ∈ (D ops.size).looks, stillOp x.2.1.op = true ∨ lookOk P (Region.before ops) n0 (D ops.size) x = true
  big : ∀ st ∈ (D ops.size).hist, n0 + ops.size ≤ st.n
  apart : ∀ st ∈ (D ops.size).hist, ∀ x ∈ (D ops.size).als, st.mg.contains x.1 = false → st.m.get (n0 + x.1) = none

section
variable {P : Program} {rec : AFrame → Mem → Nat → Res} {ops : Array Oper} {n0 : Nat} {D : Nat → Dr} {V : Nat → Value} {sl0 : Slots} {m0 : Mem} {nt : Nat}
variable {H : Nat → Bool} {β0 : Beta} {w0 : World} {fr : AFrame}

structure Inv (P : Program) (rec : AFrame → Mem → Nat → Res) (ops : Array Oper) (n0 : Nat) (D : Nat → Dr) (V : Nat → Value) (sl0 : Slots) (m0 : Mem) (H : Nat → Bool) (β0 : Beta) (w0 : World) (fr : AFrame)
    (S : Nat → Bool) (β : Beta) (w : World) (rf : Frame) (rest : List Nat) (j : Nat) (st : Stg) : Prop where
  lt : ∀ i, S i = true → i < ops.size
  cl : ∀ (i : Nat) (o : Oper), ops[i]? = some o → S i = true → ∀ e ∈ o.after, Region.binds .any e = true → S e.on = true
  pre : ∀ p e, (D ops.size).effs[p]? = some e → (S e = true ↔ p < j)
  stage : (D ops.size).hist[j]? = some st
  ex : Ex β0 ⟨H, n0⟩ m0 w0 β ⟨holS H n0 ops.size (D ops.size).als S, st.n⟩ (memS n0 (D ops.size).als S st) w
  fr : RelF β ⟨holS H n0 ops.size (D ops.size).als S, st.n⟩ { fr with slots := sls ops V sl0 S ops.size, todo := .inRegion ops rest :: fr.todo } rf

variable {S : Nat → Bool} {β : Beta} {w : World} {rf : Frame} {rest : List Nat} {j : Nat} {st : Stg} {i : Nat} {o : Oper}

theorem lk_last {s : Nat} (ho : ops[i]? = some o) (hd : o.dst = some s) (hS : S i = true) (hl : ∀ (k : Nat) (o' : Oper), i < k → ops[k]? = some o' → o'.dst = some s → S k = false) :
    ∀ K, i < K → lk (sls ops V sl0 S K) s = some (V i) := by
  intro K
  induction K with
  | zero => intro h; omega
  | succ K ih =>
    intro h
    simp only [sls]
    by_cases he : i = K
    · subst he
      simp only [hS, if_true, ho]
      rw [lk_putO, if_pos hd]
    · have ih := ih (by omega)
      split
      · rename_i hK
        cases hk : ops[K]? with
        | none => exact ih
        | some o' =>
          simp only
          rw [lk_putO, if_neg]
          · exact ih
          · intro e
            have := hl K o' (by omega) hk e
            rw [this] at hK; cases hK
      · exact ih

/-- The slots that an operation names are what they were in the text's order. -/
theorem Inv.slots (c : Chk P rec ops n0 D V sl0 m0 nt) (h : Inv P rec ops n0 D V sl0 m0 H β0 w0 fr S β w rf rest j st) (ho : ops[i]? = some o) (hS : S i = false)
    (hr : ∀ e ∈ o.after, Region.binds .any e = true → S e.on = true) : ∀ s ∈ named ops o, lk (sls ops V sl0 S ops.size) s = lk (D i).sl s := by
  intro s hs
  have hi : i < ops.size := (Array.getElem?_eq_some_iff.1 ho).1
  rw [c.t.sl_eq i (by omega), ← sls_cut i ops.size (by omega)]
  refine lk_sls ops.size fun k o' hk hk' hd => ?_
  rcases Nat.lt_trichotomy k i with hlt | rfl | hgt
  · have := c.ord.ord i o k o' s ho hk' (by omega) hd hs
    rw [Nat.max_eq_left (by omega), Nat.min_eq_right (by omega)] at this
    rw [bits_closed h.cl i k o ho hr this]
    simp [hlt]
  · rw [hS]; simp
  · have := c.ord.ord i o k o' s ho hk' (by omega) hd hs
    rw [Nat.max_eq_right (by omega), Nat.min_eq_left (by omega)] at this
    have : S k = false := by
      cases hk2 : S k with
      | false => rfl
      | true => rw [bits_closed h.cl k i o' hk' (h.cl k o' hk' hk2) this] at hS; cases hS
    rw [this]; simp; omega

theorem Inv.slots' (c : Chk P rec ops n0 D V sl0 m0 nt) (h : Inv P rec ops n0 D V sl0 m0 H β0 w0 fr S β w rf rest j st) (ho : ops[i]? = some o) (hS : S i = false)
    (_hr : ∀ e ∈ o.after, Region.binds .any e = true → S e.on = true) (s : Nat) : lk (sls ops V sl0 (addS S i) ops.size) s = lk (putO (sls ops V sl0 S ops.size) o.dst (V i)) s := by
  have hi : i < ops.size := (Array.getElem?_eq_some_iff.1 ho).1
  rw [lk_putO]
  by_cases hd : o.dst = some s
  · rw [if_pos hd]
    refine lk_last ho hd (addS_self S i) (fun k o' hk hk' hd' => ?_) ops.size hi
    rw [addS_ne (by omega)]
    have := c.ord.ord i o k o' s ho hk' (by omega) hd' (by simp [named, hd])
    rw [Nat.max_eq_right (by omega), Nat.min_eq_left (by omega)] at this
    cases hk2 : S k with
    | false => rfl
    | true => rw [bits_closed h.cl k i o' hk' (h.cl k o' hk' hk2) this] at hS; cases hS
  · rw [if_neg hd]
    refine lk_sls ops.size fun k o' hk hk' hd' => addS_ne fun e => ?_
    subst e; rw [ho] at hk'; cases hk'; exact hd hd'

theorem Inv.closed (h : Inv P rec ops n0 D V sl0 m0 H β0 w0 fr S β w rf rest j st) (ho : ops[i]? = some o) (hr : ∀ e ∈ o.after, Region.binds .any e = true → S e.on = true) :
    (∀ k, addS S i k = true → k < ops.size) ∧ ∀ (k : Nat) (o' : Oper), ops[k]? = some o' → addS S i k = true → ∀ e ∈ o'.after, Region.binds .any e = true → addS S i e.on = true := by
  refine ⟨fun k hk => ?_, fun k o' hk hs e he hb => addS_of ?_⟩
  · by_cases e : k = i
    · subst e; exact (Array.getElem?_eq_some_iff.1 ho).1
    · rw [addS_ne e] at hk; exact h.lt k hk
  · by_cases e' : k = i
    · subst e'; rw [ho] at hk; cases hk; exact hr e he hb
    · rw [addS_ne e'] at hs; exact h.cl k o' hk hs e he hb

/-- What an operation may see is there. -/
theorem Inv.view (c : Chk P rec ops n0 D V sl0 m0 nt) (h : Inv P rec ops n0 D V sl0 m0 H β0 w0 fr S β w rf rest j st) (ho : ops[i]? = some o) (hr : ∀ e ∈ o.after, Region.binds .any e = true → S e.on = true) :
    Sub (addAll n0 (waits (D ops.size).als ((Region.before ops).getD i 0) st.mg) st.m) (memS n0 (D ops.size).als S st) := by
  intro k ob hk
  have hnd := (c.t.als_ext ops.size (Nat.le_refl _)).2.1
  rcases get_addAll (nodup_filter_map hnd) hk with ⟨x, hx, rfl, rfl⟩ | ⟨hk, hne⟩
  · refine get_addAll_some _ _ (nodup_filter_map hnd) ?_
    simp only [List.mem_filter, Bool.and_eq_true] at hx ⊢
    exact ⟨hx.1, bits_closed h.cl i x.1 o ho hr hx.2.1, hx.2.2⟩
  · unfold memS
    rw [get_addAll_none]
    · exact hk
    · intro x hx e
      subst e
      simp only [List.mem_filter, Bool.and_eq_true, Bool.not_eq_true'] at hx
      have := c.apart st (List.mem_of_getElem? h.stage) x hx.1 hx.2.2
      rw [this] at hk; cases hk

theorem memS_skip {als : List (Nat × AObj)} (h : ∀ x ∈ als, x.1 ≠ i) : memS n0 als (addS S i) st = memS n0 als S st := by
  unfold memS
  rw [List.filter_congr fun x hx => by rw [addS_ne (h x hx)]]
theorem holS_skip {als : List (Nat × AObj)} {size : Nat} (h : ∀ x ∈ als, x.1 ≠ i) : holS H n0 size als (addS S i) = holS H n0 size als S := by
  funext k
  unfold holS
  by_cases e : k - n0 = i
  · have : (als.any fun x => x.1 == k - n0) = false := by
      rw [List.any_eq_false]
      intro x hx
      have := h x hx
      simp; omega
    rw [this, Bool.and_false, Bool.and_false]
  · rw [addS_ne e]

/-- The stage stays when no effect is carried out. -/
theorem pre_skip (h : Inv P rec ops n0 D V sl0 m0 H β0 w0 fr S β w rf rest j st) (hi : i ∉ (D ops.size).effs) : ∀ p e, (D ops.size).effs[p]? = some e → (addS S i e = true ↔ p < j) := by
  intro p e he
  rw [addS_ne fun x => hi (by subst x; exact List.mem_of_getElem? he)]
  exact h.pre p e he

theorem Chk.not_eff (c : Chk P rec ops n0 D V sl0 m0 nt) (hi : i < ops.size) (h : (D (i + 1)).effs = (D i).effs) : i ∉ (D ops.size).effs := by
  intro hm
  obtain ⟨_, ee, e1, e2⟩ := c.t.st_at (i := i + 1) (by omega)
  rw [e1] at hm
  rcases List.mem_append.1 hm with hm | hm
  · rw [h] at hm
    have := (c.t.als_ext i (by omega)).2.2.1 i hm
    omega
  · have := e2 i hm
    omega

theorem Inv.mgS (c : Chk P rec ops n0 D V sl0 m0 nt) (h : Inv P rec ops n0 D V sl0 m0 H β0 w0 fr S β w rf rest j st) {x : Nat} (hx : x ∈ st.mg) : S x = true := by
  obtain ⟨q, e, h1, h2, h3⟩ := c.t.mg ops.size (Nat.le_refl _) j st h.stage x hx
  have hS := (h.pre q e h2).2 h1
  obtain ⟨o', ho', _⟩ := before_bit h3
  exact bits_closed h.cl e x o' ho' (h.cl e o' ho' hS) h3

theorem holS_le {als : List (Nat × AObj)} {size n : Nat} : Dm.le ⟨holS H n0 size als S, n⟩ ⟨holS H n0 size als (addS S i), n⟩ := by
  intro k hk
  rw [Dm.has_iff] at hk ⊢
  refine ⟨hk.1, ?_⟩
  have := hk.2
  simp only [holS, Bool.or_eq_false_iff, Bool.and_eq_false_iff, Bool.not_eq_false', Bool.and_eq_true] at this ⊢
  refine ⟨this.1, ?_⟩
  rcases this.2 with h | h | h
  · exact .inl h
  · exact .inr (.inl h)
  · exact .inr (.inr ⟨addS_of h.1, h.2⟩)

theorem holS_lt {als : List (Nat × AObj)} {size n : Nat} (h0 : ∀ k, H k = true → k < n0) (hn : n0 + size ≤ n) : ∀ k, holS H n0 size als S k = true → k < n := by
  intro k hk
  simp only [holS, Bool.or_eq_true, Bool.and_eq_true, decide_eq_true_eq] at hk
  rcases hk with hk | hk
  · have := h0 k hk; omega
  · omega

/-- One operation. -/
theorem Inv.step (c : Chk P rec ops n0 D V sl0 m0 nt) (h0 : ∀ k, H k = true → k < n0) (hnt : fr.nt = nt) (hret : fr.ret = false) (h : Inv P rec ops n0 D V sl0 m0 H β0 w0 fr S β w rf (i :: rest) j st) (ho : ops[i]? = some o) (hS : S i = false)
    (hr : ∀ e ∈ o.after, Region.binds .any e = true → S e.on = true) :
    ∃ β' w' rf' j' st', Inv P rec ops n0 D V sl0 m0 H β0 w0 fr (addS S i) β' w' rf' rest j' st' ∧ Same rf rf' ∧ ∀ cs, Steps P (lone rf cs w) (lone rf' cs w') := by
  have hi : i < ops.size := (Array.getElem?_eq_some_iff.1 ho).1
  obtain ⟨cl1, cl2⟩ := h.closed ho hr
  have hsl := h.slots c ho hS hr
  have hsl' := h.slots' c ho hS hr
  have hdst : dstOk fr.nt o.dst = true := by rw [hnt]; exact c.ord.dst i o ho
  have hdo : ∀ o', ops[i]? = some o' → dstOk fr.nt o'.dst = true := fun o' e => by rw [ho] at e; cases e; exact hdst
  have htd' : rf.todo = .inRegion ops (i :: rest) :: fr.todo.map (renI β) := by rw [h.fr.todo]; rfl
  have hmd : rf.mode = .run := by rw [h.fr.mode]; simp [hret]
  have hstm := List.mem_of_getElem? h.stage
  have hbig := c.big st hstm
  have hnd := (c.t.als_ext ops.size (Nat.le_refl _)).2.1
  have hro : RelO β ⟨holS H n0 ops.size (D ops.size).als S, st.n⟩ (restr o (D i).sl) rf.eval := by
    have : RelT β ⟨holS H n0 ops.size (D ops.size).als S, st.n⟩ fr.nt (restr o (D i).sl) rf.tmps := ⟨h.fr.tmps.1, fun t v hv => by
      obtain ⟨h1, h2⟩ := lk_restr hv
      rw [← hsl t (by simp [named, h1])] at h2
      exact h.fr.tmps.2 t v h2⟩
    exact this.ev rf rfl
  have hwant : ∀ b, wantedA ops (D i).sl o = some b → Region.wanted o (yielded ops rf.tmps) = b := fun b hb => by
    rw [← wantedA_congr hsl] at hb
    exact wantedA_sound h.fr.tmps hb
  have hfin : ∀ {γ : Beta} {k : Dm} {rx : Frame}, RelF γ k { fr with slots := sls ops V sl0 S ops.size, todo := .inRegion ops (i :: rest) :: fr.todo } rx → blw k (V i) = true →
      RelF γ k { fr with slots := sls ops V sl0 (addS S i) ops.size, todo := .inRegion ops rest :: fr.todo } (rx.finish (ren γ (V i))) ∧ Same rx (rx.finish (ren γ (V i))) := by
    intro γ k rx hx hv
    obtain ⟨f1, f2⟩ := fin_region (fr := { fr with slots := sls ops V sl0 S ops.size, todo := .inRegion ops (i :: rest) :: fr.todo }) hdo rfl hx hv
    refine ⟨?_, f2⟩
    simp only [finA, ho, Option.bind_some] at f1
    exact f1.slots fun t v hv => by rw [hsl'] at hv; exact hv
  have hop := c.t.op i o ho
  have hwt := c.t.waits_eq c.ord hi st.mg
  generalize hv : V i = v0 at hop
  cases hop with
  | skip x1 x2 =>
    have hal := c.t.not_al hi (by rw [x2])
    have hef := c.not_eff hi (by rw [x2])
    obtain ⟨f1, f2⟩ := hfin h.fr (by rw [hv]; rfl)
    refine ⟨β, w, _, j, st, ⟨cl1, cl2, pre_skip h hef, h.stage, ?_, ?_⟩, f2, fun cs => .head ?_ (.refl _ _)⟩
    · rw [memS_skip hal, holS_skip hal]; exact h.ex
    · rw [holS_skip hal]; exact f1
    · rw [hv]; exact step_unwanted htd' hmd ho (hwant _ x1)
  | alloc ob v x1 x2 x3 =>
    have hef := c.not_eff hi (by rw [x3])
    have hin : (i, ob) ∈ (D ops.size).als := by
      obtain ⟨⟨ea, a1, _⟩, _⟩ := c.t.later (ops.size - (i + 1)) (i + 1) (by omega)
      rw [show i + 1 + (ops.size - (i + 1)) = ops.size by omega] at a1
      rw [a1, x3]; simp
    have hnotmg : i ∉ st.mg := fun hm => by rw [h.mgS c hm] at hS; cases hS
    have hb2 : (⟨holS H n0 ops.size (D ops.size).als (addS S i), st.n⟩ : Dm).has (n0 + i) = true := by
      rw [Dm.has_iff]
      refine ⟨by show n0 + i < st.n; omega, ?_⟩
      have e1 : H (n0 + i) = false := by
        cases hh : H (n0 + i) with
        | false => rfl
        | true => have := h0 _ hh; omega
      have e2 : ((D ops.size).als.any fun x => x.1 == i) = true := List.any_eq_true.2 ⟨_, hin, by simp⟩
      simp only [holS, e1, Nat.add_sub_cancel_left, e2, addS_self, Bool.and_self, Bool.not_true, Bool.and_false, Bool.or_false]
    have hb1 : (⟨holS H n0 ops.size (D ops.size).als S, st.n⟩ : Dm).has (n0 + i) = false := by
      have e2 : n0 + i < n0 + ops.size := by omega
      simp [Dm.has, holS, hS, e2]
    obtain ⟨β', w', r1, r2, r3, _⟩ := evA_sound (P := P) h.ex.rel hro hb1 holS_le (holS_lt h0 hbig) hb2 x2
    have hf := h.fr.agree r2.le r2.agree
    obtain ⟨f1, f2⟩ := hfin hf (by rw [hv]; exact r3)
    refine ⟨β', w', _, j, st, ⟨cl1, cl2, pre_skip h hef, h.stage, (h.ex.trans r2).ext ?_, f1⟩, f2, fun cs => .head ?_ (.refl _ _)⟩
    · intro k ob' hk
      rw [Tr.get_set]
      rcases get_addAll (nodup_filter_map hnd) hk with ⟨x, hx, rfl, rfl⟩ | ⟨hk, hne⟩
      · simp only [List.mem_filter, Bool.and_eq_true] at hx
        by_cases e : x.1 = i
        · rw [if_pos (by omega)]
          have : x = (i, ob) := by
            obtain ⟨a, ha, hxa⟩ := List.mem_iff_getElem.1 hx.1
            obtain ⟨b, hb, hib⟩ := List.mem_iff_getElem.1 hin
            have : a = b := (List.getElem?_inj (by simpa using ha) hnd).1 (by simp [ha, hb, hxa, hib, e])
            subst this
            rw [← hxa, hib]
          rw [this]
        · rw [if_neg (by omega)]
          refine get_addAll_some _ _ (nodup_filter_map hnd) ?_
          simp only [List.mem_filter, Bool.and_eq_true]
          exact ⟨hx.1, by rw [addS_ne e] at hx; exact hx.2.1, hx.2.2⟩
      · have hk2 : n0 + i ≠ k := hne (i, ob) (by simp [List.mem_filter, hin, addS_self, hnotmg])
        rw [if_neg hk2]
        unfold memS
        rw [get_addAll_none]
        · exact hk
        · intro x hx
          refine hne x ?_
          simp only [List.mem_filter, Bool.and_eq_true] at hx ⊢
          exact ⟨hx.1, addS_of hx.2.1, hx.2.2⟩
    · rw [hv]
      refine step_apply htd' hmd ho (hwant _ x1) (.inr fun c hc => ?_) r1 (.inl ⟨_, rfl, rfl⟩)
      simp [evA, hc] at x2
  | quiet v x1 x2 x3 =>
    have hal := c.t.not_al hi (by rw [x3])
    have hef := c.not_eff hi (by rw [x3])
    have hq : evQ P (addAll n0 (waits (D ops.size).als ((Region.before ops).getD i 0) st.mg) st.m) (restr o (D i).sl) o = some v0 := by
      rcases c.looks with he | hl
      · obtain ⟨s1, ee, s2, _⟩ := c.t.st_at (i := i) (by omega)
        rw [he] at s2
        have e0 : (D i).effs = [] := by
          cases hh : (D i).effs with
          | nil => rfl
          | cons a l => rw [hh] at s2; cases s2
        have hlen := (c.t.als_ext ops.size (Nat.le_refl _)).2.2.2.2.1
        have hj : j = 0 := by
          have := (List.getElem?_eq_some_iff.1 h.stage).1
          rw [hlen, he] at this
          simpa using this
        have hst := h.stage
        rw [hj] at hst
        rw [e0] at s1
        simp only [List.length_nil] at s1
        rw [s1] at hst
        cases hst
        rw [hwt] at x2
        exact x2
      · have hin : (i, o, restr o (D i).sl, v0) ∈ (D ops.size).looks := by
          obtain ⟨_, _, _, el, l1⟩ := c.t.later (ops.size - (i + 1)) (i + 1) (by omega)
          rw [show i + 1 + (ops.size - (i + 1)) = ops.size by omega] at l1
          rw [l1, x3]; simp
        rcases hl _ hin with hst | this
        · rw [evQ_still hst] at x2 ⊢; exact x2
        simp only [lookOk, List.all_eq_true] at this
        have := this (st, j) (by
          rw [List.mem_iff_getElem?]
          exact ⟨j, by rw [List.getElem?_zipIdx, h.stage]; simp⟩)
        have hlo : ((D ops.size).effs.filter fun e => ((Region.before ops).getD i 0).testBit e).length ≤ j := filter_le fun q a hq hp => (h.pre q a hq).1 (bits_closed h.cl i a o ho hr hp)
        have hlen := (c.t.als_ext ops.size (Nat.le_refl _)).2.2.2.2.1
        have hhi : j ≤ ((D ops.size).effs.filter fun e => !((Region.before ops).getD e 0).testBit i).length := by
          refine le_filter ?_ fun q a hq hj => ?_
          · have := (List.getElem?_eq_some_iff.1 h.stage).1
            omega
          · have hSa := (h.pre q a hq).2 hj
            cases hb : ((Region.before ops).getD a 0).testBit i with
            | false => rfl
            | true =>
              obtain ⟨o', ho', _⟩ := before_bit hb
              rw [bits_closed h.cl a i o' ho' (h.cl a o' ho' hSa) hb] at hS; cases hS
        simp only at this
        rw [if_pos ⟨hlo, hhi⟩] at this
        split at this
        · rename_i u hu
          rw [vEq_eq _ _ this] at hu
          exact hu
        · cases this
    have hq2 := evQ_mono (h.view c ho hr) hq
    have hqs := evQ_sound (P := P) h.ex.rel hro hq2
    obtain ⟨f1, f2⟩ := hfin h.fr (by rw [hv]; exact hqs.2)
    refine ⟨β, w, _, j, st, ⟨cl1, cl2, pre_skip h hef, h.stage, ?_, ?_⟩, f2, fun cs => .head ?_ (.refl _ _)⟩
    · rw [memS_skip hal, holS_skip hal]; exact h.ex
    · rw [holS_skip hal]; exact f1
    · rw [hv]
      refine step_apply htd' hmd ho (hwant _ x1) (.inr fun c hc => ?_) hqs.1 (.inl ⟨_, rfl, rfl⟩)
      simp [evQ, hc] at x2
  | eff v m' n' x1 x2 x3 x4 =>
    have hal := c.t.not_al hi (by rw [x4])
    obtain ⟨s1, ee, s2, s3⟩ := c.t.st_at (i := i) (by omega)
    obtain ⟨s1', ee', s2', _⟩ := c.t.st_at (i := i + 1) (by omega)
    have hee : (D (i + 1)).effs = (D i).effs ++ [i] := by rw [x4]
    have hp : (D ops.size).effs[(D i).effs.length]? = some i := by rw [s2', hee]; simp
    have hjp : j = (D i).effs.length := by
      have h1 : ¬ (D i).effs.length < j := fun hlt => by rw [(h.pre _ _ hp).2 hlt] at hS; cases hS
      have h2 : (D i).effs.length ≤ j := by
        cases hl : (D i).effs.length with
        | zero => exact Nat.zero_le _
        | succ q =>
          have hq : (D i).effs[q]? = some ((D i).effs[q]'(by omega)) := by simp
          have hm : (D i).effs[q]'(by omega) ∈ (D i).effs := List.getElem_mem _
          have hb := List.all_eq_true.1 x2 _ hm
          have := (h.pre q _ (by rw [s2, List.getElem?_append_left (by omega)]; exact hq)).1 (bits_closed h.cl i _ o ho hr hb)
          omega
      omega
    have hst : st = (D i).st := by
      have := h.stage
      rw [hjp, s1] at this
      exact (Option.some.inj this).symm
    have hview := h.view c ho hr
    rw [← hst, hwt] at x3
    obtain ⟨rec', hrec', x3⟩ := x3
    have hde := drawEff_step (ops := ops) (i := i) (rest := rest) (k := fr.todo) (fr := { fr with slots := sls ops V sl0 S ops.size, todo := .inRegion ops (i :: rest) :: fr.todo }) hrec' (h.ex.rel.sub hview) h.fr rfl hret ho (hwant _ x1) hdst hro x3
    obtain ⟨β', w', rf', e1, e2, e3, e4⟩ := hde
    have hst' : (D ops.size).hist[j + 1]? = some (D (i + 1)).st := by
      rw [hee, List.length_append, List.length_singleton, ← hjp] at s1'
      exact s1'
    have hst2 : (D (i + 1)).st = ⟨m', st.mg ++ (waits (D ops.size).als ((Region.before ops).getD i 0) st.mg).map (·.1), n'⟩ := by
      rw [x4, ← hst, hwt]
    have hstn : (D (i + 1)).st.n = n' := by rw [hst2]
    have hex := h.ex.trans (Ex.frame (mem' := memS n0 (D ops.size).als (addS S i) (D (i + 1)).st) h.ex.rel hview e1 fun k ob hk => by
      rcases get_addAll (nodup_filter_map hnd) hk with ⟨x, hx, rfl, rfl⟩ | ⟨hk, hne⟩
      · right
        simp only [List.mem_filter, Bool.and_eq_true, Bool.not_eq_true'] at hx
        obtain ⟨hx1, hx2, hx3⟩ := hx
        rw [addS_ne (hal x hx1)] at hx2
        have hx3' := hx3
        rw [hst2] at hx3
        simp only [List.contains_eq_mem, List.mem_append, decide_eq_false_iff_not, not_or] at hx3
        have hmgc : st.mg.contains x.1 = false := by simpa using hx3.1
        refine ⟨get_addAll_some _ _ (nodup_filter_map hnd) ?_, ?_, c.t.plain ops.size (Nat.le_refl _) x hx1, ?_⟩
        · simp only [List.mem_filter, Bool.and_eq_true, Bool.not_eq_true']
          exact ⟨hx1, hx2, hmgc⟩
        · rw [get_addAll_none]
          · exact c.apart st hstm x hx1 hmgc
          · intro y hy e
            have : y.1 = x.1 := by omega
            exact hx3.2 (List.mem_map.2 ⟨y, hy, this⟩)
        · have := c.apart _ (List.mem_of_getElem? hst') x hx1 hx3'
          rw [hst2] at this; exact this
      · left
        rw [hst2] at hk; exact hk)
    refine ⟨β', w', rf', j + 1, (D (i + 1)).st, ⟨cl1, cl2, fun p e he => ?_, hst', ?_, ?_⟩, e3, e4⟩
    · have hndE := (c.t.als_ext ops.size (Nat.le_refl _)).2.2.2.1
      by_cases hpj : p = j
      · subst hpj
        rw [← hjp] at hp
        rw [hp] at he; cases he
        simp [addS_self]
      · have hne : e ≠ i := by
          intro x; subst x
          rw [← hjp] at hp
          have := (List.getElem?_inj (i := p) (j := j) (List.getElem?_eq_some_iff.1 he).1 hndE).1 (he.trans hp.symm)
          exact hpj this
        rw [addS_ne hne, h.pre p e he]
        omega
    · rw [holS_skip hal, hstn]
      exact hex
    · rw [holS_skip hal, hstn]
      have := e2
      simp only [finA, ho, Option.bind_some] at this
      refine this.slots fun t v hv' => ?_
      rw [hsl', hv] at hv'
      exact hv'
end
end Go.Ab
