/- Regions that draw their order: what holds of the trace; one effect. -/
import Derived.Test.YtiomjekkmjinbaaAb20
import Derived.Test.YtiomjekkmjinbaaAb15
namespace Go.Ab
open Go

section
variable {P : Program} {rec : AFrame → Mem → Nat → Res} {ops : Array Oper} {n0 : Nat} {D : Nat → Dr} {V : Nat → Value} {sl0 : Slots} {m0 : Mem} {nt : Nat}

theorem Tra.waits_eq (t : Tra P rec ops (Region.before ops) n0 (dr0 sl0 m0 n0 ops.size) D V) (hord : OrdR ops nt) {i : Nat} (hi : i < ops.size) (mg : List Nat) :
    waits (D i).als ((Region.before ops).getD i 0) mg = waits (D ops.size).als ((Region.before ops).getD i 0) mg := by
  obtain ⟨⟨ea, h1, h2⟩, _⟩ := t.later (ops.size - i) i (by omega)
  rw [show i + (ops.size - i) = ops.size by omega] at h1
  unfold waits
  rw [h1, List.filter_append]
  have : (ea.filter fun x => ((Region.before ops).getD i 0).testBit x.1 && !mg.contains x.1) = [] := by
    rw [List.filter_eq_nil_iff]
    intro x hx hb
    simp only [Bool.and_eq_true] at hb
    have := hord.bit_lt i x.1 hb.1
    have := h2 x hx
    omega
  rw [this, List.append_nil]

theorem Tra.st_at (t : Tra P rec ops (Region.before ops) n0 (dr0 sl0 m0 n0 ops.size) D V) {i : Nat} (hi : i ≤ ops.size) :
    (D ops.size).hist[(D i).effs.length]? = some (D i).st ∧ ∃ ee, (D ops.size).effs = (D i).effs ++ ee ∧ ∀ x ∈ ee, i ≤ x := by
  obtain ⟨_, ⟨ee, e1, e2⟩, ⟨eh, h1⟩, _⟩ := t.later (ops.size - i) i (by omega)
  rw [show i + (ops.size - i) = ops.size by omega] at h1 e1
  obtain ⟨_, _, _, _, _, h6⟩ := t.als_ext i hi
  refine ⟨?_, ee, e1, e2⟩
  rw [h1, List.getElem?_append_left (List.getElem?_eq_some_iff.1 h6).1]; exact h6

/-- What has been merged at a stage lies before an effect of it. -/
theorem Tra.mg (t : Tra P rec ops (Region.before ops) n0 (dr0 sl0 m0 n0 ops.size) D V) : ∀ i, i ≤ ops.size → ∀ (p : Nat) (st : Stg), (D i).hist[p]? = some st → ∀ x ∈ st.mg,
    ∃ q e, q < p ∧ (D i).effs[q]? = some e ∧ ((Region.before ops).getD e 0).testBit x = true := by
  intro i
  induction i with
  | zero =>
    intro _ p st h x hx
    rw [t.zero] at h
    cases p with
    | zero => simp only [dr0, List.getElem?_cons_zero, Option.some.injEq] at h; subst h; cases hx
    | succ p => simp [dr0] at h
  | succ i ih =>
    intro hi p st h x hx
    have ih := ih (by omega)
    obtain ⟨_, _, _, _, hlen, hst⟩ := t.als_ext i (by omega)
    have hop := t.op i ops[i] (by simp [show i < ops.size by omega])
    generalize V i = v0 at hop
    cases hop with
    | skip x1 x2 => rw [x2] at h ⊢; exact ih p st h x hx
    | alloc ob v x1 x2 x3 => rw [x3] at h ⊢; exact ih p st h x hx
    | quiet v x1 x2 x3 => rw [x3] at h ⊢; exact ih p st h x hx
    | eff v m n x1 x2 x3 x4 =>
      rw [x4] at h ⊢
      simp only at h ⊢
      have old : ∀ (p : Nat) (st : Stg), (D i).hist[p]? = some st → x ∈ st.mg → ∃ q e, q < p ∧ ((D i).effs ++ [i])[q]? = some e ∧ ((Region.before ops).getD e 0).testBit x = true := by
        intro p st h hx
        obtain ⟨q, e, h1, h2, h3⟩ := ih p st h x hx
        exact ⟨q, e, h1, by rw [List.getElem?_append_left (List.getElem?_eq_some_iff.1 h2).1]; exact h2, h3⟩
      rcases Nat.lt_or_ge p (D i).hist.length with hp | hp
      · rw [List.getElem?_append_left hp] at h
        exact old p st h hx
      · rw [List.getElem?_append_right hp] at h
        have hp0 : p - (D i).hist.length = 0 := by
          have := (List.getElem?_eq_some_iff.1 h).1
          simpa using this
        rw [hp0] at h
        simp only [List.getElem?_cons_zero, Option.some.injEq] at h
        subst h
        simp only at hx
        rcases List.mem_append.1 hx with hx | hx
        · obtain ⟨q, e, h1, h2, h3⟩ := old _ _ hst hx
          exact ⟨q, e, by omega, h2, h3⟩
        · obtain ⟨y, hy, rfl⟩ := List.mem_map.1 hx
          simp only [waits, List.mem_filter, Bool.and_eq_true] at hy
          exact ⟨(D i).effs.length, i, by omega, by simp, hy.2.1⟩

theorem Tra.plain (t : Tra P rec ops (Region.before ops) n0 (dr0 sl0 m0 n0 ops.size) D V) : ∀ i, i ≤ ops.size → ∀ x ∈ (D i).als, plainO x.2 = true := by
  intro i
  induction i with
  | zero => intro _ x hx; rw [t.zero] at hx; cases hx
  | succ i ih =>
    intro hi x hx
    have ih := ih (by omega)
    have hop := t.op i ops[i] (by simp [show i < ops.size by omega])
    generalize V i = v0 at hop
    cases hop with
    | skip x1 x2 => rw [x2] at hx; exact ih x hx
    | alloc ob v x1 x2 x3 =>
      rw [x3] at hx
      rcases List.mem_append.1 hx with hx | hx
      · exact ih x hx
      · simp only [List.mem_singleton] at hx; subst hx; exact evA_plain x2
    | quiet v x1 x2 x3 => rw [x3] at hx; exact ih x hx
    | eff v m n x1 x2 x3 x4 => rw [x4] at hx; exact ih x hx

/-- An operation that leaves the row of allocations as it was is in it nowhere. -/
theorem Tra.not_al (t : Tra P rec ops (Region.before ops) n0 (dr0 sl0 m0 n0 ops.size) D V) {i : Nat} (hi : i < ops.size) (h : (D (i + 1)).als = (D i).als) : ∀ x ∈ (D ops.size).als, x.1 ≠ i := by
  intro x hx e
  obtain ⟨⟨ea, h1, h2⟩, _⟩ := t.later (ops.size - (i + 1)) (i + 1) (by omega)
  rw [show i + 1 + (ops.size - (i + 1)) = ops.size by omega] at h1
  rw [h1] at hx
  rcases List.mem_append.1 hx with hx | hx
  · rw [h] at hx
    have := (t.als_ext i (by omega)).1 x hx
    omega
  · have := h2 x hx
    omega

variable {β : Beta} {n : Dm} {m view : Mem} {w : World} {fr : AFrame} {rf : Frame}

/-- One effect, with what it calls. -/
theorem drawEff_step (hrec : RecOk P rec) (hm : RelM β n view w) (h : RelF β n fr rf) {i : Nat} {rest : List Nat} {k : List Item} {o : Oper} (htd : fr.todo = .inRegion ops (i :: rest) :: k) (hmode : fr.ret = false)
    (ho : ops[i]? = some o) (hw : Region.wanted o (yielded ops rf.tmps) = true) (hd : dstOk fr.nt o.dst = true) {slR : Slots} (hro : RelO β n slR rf.eval) {v : Value} {m' : Mem} {n' : Nat}
    (he : drawEff P rec view n.n slR o = some (v, m', n')) :
    ∃ β' w' rf', Ex β n view w β' (n.up n') m' w' ∧ RelF β' (n.up n') (finA fr v) rf' ∧ Same rf rf' ∧ ∀ cs, Steps P (lone rf cs w) (lone rf' cs w') := by
  have htd' : rf.todo = .inRegion ops (i :: rest) :: k.map (renI β) := by rw [h.todo, htd]; rfl
  have hmd : rf.mode = .run := by rw [h.mode, hmode]; rfl
  have hdo : ∀ o', ops[i]? = some o' → dstOk fr.nt o'.dst = true := fun o' e => by rw [ho] at e; cases e; exact hd
  have hs := evE_sound (P := P) hm hro o
  have hnd : ∀ c, o.op = .defer c → (∃ d, evE P view n.n slR o = .dfr d) ∨ evE P view n.n slR o = .fail := fun c hc => by
    have := evOp_defer (P := P) (m := view) (n := n.n) (sl := slR) hc
    simpa [evOp, hc, quietOp] using this
  unfold drawEff at he
  generalize hee : evE P view n.n slR o = e at he hs hnd
  have called : ∀ {c : AFrame} {rc : Frame}, RelF β n c rc → c.kind = .normal → (∀ cs, step P (lone rf cs w) = .next (lone rc (rf :: cs) w)) → rec c view n.n = some [(v, m', n')] →
      ∃ β' w' rf', Ex β n view w β' (n.up n') m' w' ∧ RelF β' (n.up n') (finA fr v) rf' ∧ Same rf rf' ∧ ∀ cs, Steps P (lone rf cs w) (lone rf' cs w') := by
    intro c rc hrc hk hst hrc'
    obtain ⟨v1, m1, n1, β1, w1, q, ex, hb, hr⟩ := hrec c view n.n _ hrc' n.H β w rc hrc hm
    simp only [List.mem_singleton, Prod.mk.injEq] at q
    obtain ⟨rfl, rfl, rfl⟩ := q
    obtain ⟨f1, f2⟩ := fin_region hdo htd (h.agree ex.le ex.agree) hb
    refine ⟨β1, w1, _, ex, f1, f2, fun cs => ?_⟩
    obtain ⟨wx, rx, s1, d1, sm1⟩ := hr (rf :: cs)
    exact .head (hst cs) (s1.trans (.head (leave_normal d1 (by rw [sm1.kind, hrc.kind, hk])) (.refl _ _)))
  cases e with
  | val v1 m1 n1 =>
    simp only [Option.some.injEq, Prod.mk.injEq] at he
    obtain ⟨rfl, rfl, rfl⟩ := he
    obtain ⟨β', w', nx, h1, h2, h3, h4⟩ := hs
    obtain ⟨f1, f2⟩ := fin_region hdo htd (h.agree h3.le h3.agree) h4
    refine ⟨β', w', rf.finish (ren β' v1), h3, f1, f2, fun cs => .head (step_apply htd' hmd ho hw (.inr fun c hc => ?_) h1 ?_) (.refl _ _)⟩
    · rcases hnd c hc with ⟨d, hd⟩ | hd <;> cases hd
    · rcases h2 with rfl | ⟨rfl, rfl⟩
      · exact .inl ⟨_, rfl, rfl⟩
      · exact .inr (.inl ⟨rfl, rfl⟩)
  | call f args =>
    simp only at he
    split at he
    · rename_i c hc
      split at he
      · rename_i r hr
        simp only [Option.some.injEq] at he; subst he
        obtain ⟨h1, h2⟩ := hs _ c hc
        obtain ⟨e1, e2, e3, e4⟩ := enterA_sound (β := β) (n := n) hc h2
        exact called e1 e2 (fun cs => step_apply_enter htd' hmd ho hw (fun c hc => by rcases hnd c hc with ⟨d, hd⟩ | hd <;> cases hd) h1) hr
      · cases he
    · cases he
  | yield l args =>
    simp only at he
    split at he
    · rename_i c hc
      split at he
      · rename_i r hr
        simp only [Option.some.injEq] at he; subst he
        obtain ⟨hl, tmps, as, bd, h1, h2, h3, h4, h5, h6, h7⟩ := hs c hc
        refine called (rc := Frame.round (β l).blk c.fn tmps as bd .normal) ⟨rfl, h2, ?_, ?_, ?_, ?_, ?_, h6.symm, ?_, ?_⟩ h6
          (fun cs => step_apply_round htd' hmd ho hw (fun c hc => by rcases hnd c hc with ⟨d, hd⟩ | hd <;> cases hd) h1) hr
        · rw [h3]; rfl
        · rw [h3]; simp [blwI]
        · rw [h4]; rfl
        · rw [h4]; simp
        · rw [h5]; rfl
        · rw [h7]; rfl
        · rw [h7]; intro l' e; cases e; exact hl
      · cases he
    · cases he
  | dfr d => cases he
  | alts l => cases he
  | fail => cases he
end
end Go.Ab
