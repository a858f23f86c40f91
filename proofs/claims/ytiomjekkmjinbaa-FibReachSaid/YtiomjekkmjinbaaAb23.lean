/- Regions that draw their order: whole. -/
import Derived.Test.YtiomjekkmjinbaaAb22
import Derived.Test.YtiomjekkmjinbaaAb16
import Derived.Orders
namespace Go.Ab
open Go

def cntN (f : Nat → Bool) : Nat → Nat
  | 0 => 0
  | n + 1 => cntN f n + if f n then 1 else 0
theorem cntN_congr {f g : Nat → Bool} : ∀ n, (∀ k, k < n → f k = g k) → cntN f n = cntN g n
  | 0, _ => rfl
  | n + 1, h => by simp [cntN, cntN_congr n fun k hk => h k (by omega), h n (by omega)]
theorem cntN_one {f g : Nat → Bool} {i : Nat} (hf : f i = true) (hg : g i = false) (h : ∀ k, k ≠ i → f k = g k) : ∀ n, i < n → cntN g n + 1 = cntN f n
  | 0, hi => by omega
  | n + 1, hi => by
    simp only [cntN]
    by_cases e : i = n
    · subst e
      rw [cntN_congr i fun k hk => h k (by omega), hf, hg]; simp
    · have := cntN_one hf hg h n (by omega)
      rw [h n (fun x => e x.symm)]; omega
theorem cntN_zero {f : Nat → Bool} : ∀ n, cntN f n = 0 → ∀ k, k < n → f k = false
  | 0, _, k, hk => by omega
  | n + 1, h, k, hk => by
    simp only [cntN] at h
    by_cases e : k = n
    · subst e
      cases hf : f k with
      | false => rfl
      | true => rw [hf] at h; simp at h
    · exact cntN_zero n (by omega) k (by omega)

section
variable {P : Program} {rec : AFrame → Mem → Nat → Res} {ops : Array Oper} {n0 : Nat} {D : Nat → Dr} {V : Nat → Value} {sl0 : Slots} {m0 : Mem} {nt : Nat}
variable {H : Nat → Bool} {β0 : Beta} {w0 : World} {fr : AFrame}

theorem Inv.congr {S S' : Nat → Bool} {β : Beta} {w : World} {rf : Frame} {rest : List Nat} {j : Nat} {st : Stg} (h : Inv P rec ops n0 D V sl0 m0 H β0 w0 fr S β w rf rest j st) (hs : S = S') :
    Inv P rec ops n0 D V sl0 m0 H β0 w0 fr S' β w rf rest j st := hs ▸ h

theorem all_listed {listed : Array Bool} (hord : OrdR ops nt) (hs : listed.size = ops.size) (h : Region.ready .any ops listed = []) : ∀ k, k < ops.size → listed.getD k false = true := by
  intro k
  induction k using Nat.strongRecOn with
  | ind k ih =>
    intro hk
    cases hl : listed.getD k false with
    | true => rfl
    | false =>
      have : k ∈ Region.ready .any ops listed := by
        rw [mem_ready]
        refine ⟨?_, ops[k], by simp [hk], fun e he hb => ?_⟩
        · simp only [Array.getD_eq_getD_getElem?] at hl ⊢
          have hk' : k < listed.size := by omega
          simp only [hk', Array.getElem?_eq_getElem, Option.getD_some] at hl ⊢
          exact hl
        · have := hord.lt k ops[k] (by simp [hk]) e he hb
          exact ih e.on this (by omega)
      rw [h] at this; cases this

theorem region_go (c : Chk P rec ops n0 D V sl0 m0 nt) (h0 : ∀ k, H k = true → k < n0) (hnt : fr.nt = nt) (hret : fr.ret = false) : ∀ (fuel t : Nat) (listed : Array Bool) (β : Beta) (w : World) (rf : Frame) (j : Nat) (st : Stg),
    listed.size = ops.size → cntN (fun k => !listed.getD k false) ops.size ≤ fuel →
    Inv P rec ops n0 D V sl0 m0 H β0 w0 fr (fun k => listed.getD k false) β w rf (Region.linearise.go .any ops fuel t listed []) j st →
    ∃ β' w' rf' j' st', Inv P rec ops n0 D V sl0 m0 H β0 w0 fr (fun k => decide (k < ops.size)) β' w' rf' [] j' st' ∧ Same rf rf' ∧ ∀ cs, Steps P (lone rf cs w) (lone rf' cs w') := by
  intro fuel
  have fin : ∀ (listed : Array Bool) (β : Beta) (w : World) (rf : Frame) (j : Nat) (st : Stg), listed.size = ops.size → (∀ k, k < ops.size → listed.getD k false = true) →
      Inv P rec ops n0 D V sl0 m0 H β0 w0 fr (fun k => listed.getD k false) β w rf [] j st →
      ∃ β' w' rf' j' st', Inv P rec ops n0 D V sl0 m0 H β0 w0 fr (fun k => decide (k < ops.size)) β' w' rf' [] j' st' ∧ Same rf rf' ∧ ∀ cs, Steps P (lone rf cs w) (lone rf' cs w') := by
    intro listed β w rf j st hs hall h
    refine ⟨β, w, rf, j, st, h.congr ?_, Same.refl rf, fun cs => .refl _ _⟩
    funext k
    by_cases hk : k < ops.size
    · simp [hall k hk, hk]
    · simp only [hk, decide_false, Array.getD_eq_getD_getElem?]
      rw [Array.getElem?_eq_none (by omega)]; rfl
  induction fuel with
  | zero =>
    intro t listed β w rf j st hs hc h
    refine fin listed β w rf j st hs (fun k hk => ?_) (by simpa [Region.linearise.go] using h)
    have := cntN_zero ops.size (Nat.le_zero.1 hc) k hk
    simpa using this
  | succ fuel ih =>
    intro t listed β w rf j st hs hc h
    have hgo : Region.linearise.go .any ops (fuel + 1) t listed [] = match (Region.ready .any ops listed)[t % (Region.ready .any ops listed).length]? with
      | some i => Region.linearise.go .any ops fuel (t / (Region.ready .any ops listed).length) (listed.setIfInBounds i true) [i]
      | none => [].reverse := rfl
    rw [hgo] at h
    cases hi : (Region.ready .any ops listed)[t % (Region.ready .any ops listed).length]? with
    | none =>
      have hnil : Region.ready .any ops listed = [] := by
        cases hr : Region.ready .any ops listed with
        | nil => rfl
        | cons x xs =>
          rw [hr] at hi
          have hlt : t % (x :: xs).length < (x :: xs).length := Nat.mod_lt _ (by simp)
          simp at hi
          simp at hlt
          omega
      rw [hi] at h
      exact fin listed β w rf j st hs (all_listed c.ord hs hnil) (by simpa using h)
    | some i =>
      rw [hi] at h
      simp only at h
      rw [linearise_go_acc, List.reverse_singleton, List.singleton_append] at h
      obtain ⟨hl, o, ho, hr⟩ := mem_ready.1 (List.mem_of_getElem? hi)
      have hlt : i < ops.size := (Array.getElem?_eq_some_iff.1 ho).1
      have hl' : listed.getD i false = false := by
        simp only [Array.getD_eq_getD_getElem?] at hl ⊢
        have hk' : i < listed.size := by omega
        simp only [hk', Array.getElem?_eq_getElem, Option.getD_some] at hl ⊢
        exact hl
      obtain ⟨β', w', rf', j', st', h', sm, stp⟩ := h.step c h0 hnt hret ho hl' hr
      have heq : addS (fun k => listed.getD k false) i = fun k => (listed.setIfInBounds i true).getD k false := by
        funext k
        by_cases e : k = i
        · subst e
          have hk' : k < listed.size := by omega
          simp [addS, Array.getD_eq_getD_getElem?, hk']
        · rw [addS_ne e]
          exact (getD_set_ne false (fun x => e x.symm)).symm
      have hc' : cntN (fun k => !(listed.setIfInBounds i true).getD k false) ops.size + 1 = cntN (fun k => !listed.getD k false) ops.size := by
        refine cntN_one (i := i) (by simp only [hl', Bool.not_false]) ?_ (fun k hk => ?_) ops.size hlt
        · have := congrFun heq i
          rw [addS_self] at this
          simp only [← this, Bool.not_true]
        · have := congrFun heq k
          rw [addS_ne hk] at this
          simp only [this]
      obtain ⟨β2, w2, rf2, j2, st2, h2, sm2, stp2⟩ := ih _ _ β' w' rf' j' st' (by simpa using hs) (by omega) (h'.congr heq)
      exact ⟨β2, w2, rf2, j2, st2, h2, sm.trans sm2, fun cs => (stp cs).trans (stp2 cs)⟩

theorem chk_of (hrec : RecOk P rec) {sl : Slots} {m2 : Mem} {n2 : Nat} (h : drawA P rec ops nt sl0 m0 n0 = some (sl, m2, n2)) :
    ∃ D V, Chk P rec ops n0 D V sl0 m0 nt ∧ sl = (D ops.size).sl ∧ m2 = addAll n0 ((D ops.size).als.filter fun x => !(D ops.size).st.mg.contains x.1) (D ops.size).st.m ∧ n2 = (D ops.size).st.n := by
  unfold drawA at h
  simp only at h
  split at h
  · rename_i d hd
    split at h
    · rename_i hc
      simp only [Option.some.injEq, Prod.mk.injEq] at h
      obtain ⟨rfl, rfl, rfl⟩ := h
      obtain ⟨D, V, t, hD⟩ := tra_of hrec hd
      subst hD
      simp only [Bool.and_eq_true, Bool.or_eq_true, List.all_eq_true, List.isEmpty_iff, decide_eq_true_eq, Option.isNone_iff_eq_none] at hc
      obtain ⟨⟨⟨c1, c2⟩, c3⟩, c4⟩ := hc
      refine ⟨D, V, ⟨t, ord_of c1, c2, c3, fun st hst x hx hn => ?_⟩, rfl, rfl, rfl⟩
      rcases c4 with c4 | c4
      · rw [c4] at hx; cases hx
      · rcases c4 st hst x hx with h | h
        · rw [hn] at h; cases h
        · exact h
    · cases h
  · cases h

theorem leaveA_draw {fr : AFrame} {m : Mem} {n : Nat} {jp : Option Code} {ops : Array Oper} {fr' : AFrame} {m' : Mem} {n' : Nat} : leaveA fr m n jp ≠ .draw ops fr' m' n' := by
  unfold leaveA; (repeat' split) <;> simp
theorem unwindA_draw {fr : AFrame} {m : Mem} {n : Nat} {ops : Array Oper} {fr' : AFrame} {m' : Mem} {n' : Nat} : unwindA P fr m n ≠ .draw ops fr' m' n' := by
  unfold unwindA; (repeat' split) <;> simp
theorem operA_draw {fr : AFrame} {m : Mem} {n : Nat} {o : Oper} {ops : Array Oper} {fr' : AFrame} {m' : Mem} {n' : Nat} : operA P fr o m n ≠ .draw ops fr' m' n' := by
  unfold operA; (repeat' split) <;> simp

theorem stepA_draw {keep : FuncId → Option (List Nat)} {fr fr' : AFrame} {m m' : Mem} {n n' : Nat} {ops : Array Oper} (h : stepA P keep fr m n = .draw ops fr' m' n') :
    fr.ret = false ∧ ∃ id k, fr.todo = .code (.region id ops true) :: k ∧ fr' = { fr with todo := k } ∧ m = m' ∧ n = n' := by
  unfold stepA at h
  repeat' split at h
  all_goals first
    | (cases h; done)
    | exact absurd h leaveA_draw
    | exact absurd h unwindA_draw
    | exact absurd h operA_draw
    | skip
  rename_i hret _ _ k id ops' draw ht hd
  simp only [Out.draw.injEq] at h
  obtain ⟨rfl, rfl, rfl, rfl⟩ := h
  subst hd
  exact ⟨by simpa using hret, id, _, ht, rfl, rfl, rfl⟩

/-- The state's slots and memory behind a region that draws. -/
def drEnd (n : Nat) (d : Dr) : Slots × Mem × Nat := (d.sl, addAll n (d.als.filter fun x => !d.st.mg.contains x.1) d.st.m, d.st.n)

theorem draw_chk (hmix : P.follows .mixedOrders = true) {keep : FuncId → Option (List Nat)} {fr fr' : AFrame} {m m' : Mem} {n n' : Nat} {Q : Value → Mem → Nat → Prop} (hs : stepA P keep fr m n = .draw ops fr' m' n')
    (hc : (∀ i, n ≤ i → m.get i = none) → ∃ rec D V, Chk P rec ops n D V fr.slots m fr.nt ∧
      W P { fr' with slots := prune (keep fr'.fn) (D ops.size).sl } (addAll n ((D ops.size).als.filter fun x => !(D ops.size).st.mg.contains x.1) (D ops.size).st.m) (D ops.size).st.n Q) : W P fr m n Q := by
  obtain ⟨hret, id, k, ht, rfl, rfl, rfl⟩ := stepA_draw hs
  intro H β w rf hf hm
  obtain ⟨rec, D, V, c, hw⟩ := hc fun i hi => by
    cases hg : m.get i with
    | none => rfl
    | some o =>
      have := (hm.obj i o hg).1
      rw [Dm.has_iff] at this
      exact absurd this.1 (Nat.not_lt.2 hi)
  have htd : rf.todo = .code (.region id ops true) :: k.map (renI β) := by rw [hf.todo, ht]; rfl
  have hmd : rf.mode = .run := by rw [hf.mode, hret]; rfl
  have htb : ∀ x ∈ k, blwI ⟨H, n⟩ x = true := fun x hx => hf.todoB x (by rw [ht]; exact List.mem_cons_of_mem _ hx)
  -- the start
  have hstep : ∀ cs, Go.step P (lone rf cs w) = .next (lone { rf with todo := .inRegion ops (Region.linearise .any ops (w.tape w.drawn (.order rf.fn id))) :: k.map (renI β) } cs { w with drawn := w.drawn + 1 }) := fun cs => by
    refine step_lone_go ?_
    obtain ⟨fn, tmps, td, defers, mode, kind, roundOf⟩ := rf
    simp only at htd hmd
    subst htd; subst hmd
    simp [stepG, stepG.exec, choose, Sem.run, Question.forced, Question.cut, Region.schedule, hmix]
  have hbig := c.big
  have h00 := c.t.zero
  have hst0 : (D ops.size).hist[0]? = some ⟨m, [], n + ops.size⟩ := by
    have := (c.t.st_at (i := 0) (by omega)).1
    rw [h00] at this; exact this
  have hal0 : (D ops.size).als.filter (fun x => (fun _ : Nat => false) x.1 && !([] : List Nat).contains x.1) = [] := by simp
  have hle0 : Dm.le ⟨H, n⟩ ⟨holS H n ops.size (D ops.size).als (fun _ => false), n + ops.size⟩ := by
    intro i hi
    rw [Dm.has_iff] at hi ⊢
    simp only at hi ⊢
    refine ⟨by omega, ?_⟩
    simp [holS, hi.2]
    omega
  have hol0 := holS_lt (S := fun _ => false) (als := (D ops.size).als) hm.hol (Nat.le_refl (n + ops.size))
  have hinv : Inv P rec ops n D V fr.slots m H β w { fr with todo := k } (fun k => (Array.replicate ops.size false).getD k false) β { w with drawn := w.drawn + 1 }
      { rf with todo := .inRegion ops (Region.linearise .any ops (w.tape w.drawn (.order rf.fn id))) :: k.map (renI β) }
      (Region.linearise.go .any ops ops.size (w.tape w.drawn (.order rf.fn id)) (Array.replicate ops.size false) []) 0 ⟨m, [], n + ops.size⟩ := by
    have he : (fun k => (Array.replicate ops.size false).getD k false) = fun _ => false := by
      funext k
      simp only [Array.getD_eq_getD_getElem?, Array.getElem?_replicate]
      split <;> rfl
    rw [he]
    have hs0 : ∀ K, sls ops V fr.slots (fun _ => false) K = fr.slots := by
      intro K
      induction K with
      | zero => rfl
      | succ K ih => simp [sls, ih]
    refine ⟨fun i hi => by simp at hi, fun i o _ hi => by simp at hi, fun p e _ => by simp, hst0, ?_, ?_⟩
    · unfold memS
      rw [hal0]
      exact ((Ex.refl hm).leR hle0 hol0).heapR rfl rfl rfl rfl
    · rw [hs0]
      have := hf.agree (γ := β) hle0 fun _ _ => rfl
      exact ⟨this.fn, this.tmps, rfl, fun x hx => by
        rcases List.mem_cons.1 hx with rfl | hx
        · rfl
        · exact blwI_mono hle0 (htb x hx), this.defers, this.defersB, this.mode, this.kind, this.round, this.roundB⟩
  obtain ⟨β1, w1, rf1, j, st, h1, sm1, stp1⟩ := region_go (fr := { fr with todo := k }) c hm.hol rfl hret ops.size _ _ _ _ _ _ _ (by simp) (by
    have : ∀ K, cntN (fun k => !(Array.replicate ops.size false).getD k false) K ≤ K := by
      intro K
      induction K with
      | zero => exact Nat.le_refl _
      | succ K ih => simp only [cntN]; split <;> omega
    exact this ops.size) hinv
  -- the end
  obtain ⟨a1, _, a3, _, a5, a6⟩ := c.t.als_ext ops.size (Nat.le_refl _)
  have hj : j = (D ops.size).effs.length := by
    have hlt := (List.getElem?_eq_some_iff.1 h1.stage).1
    rw [a5] at hlt
    have : ¬ j < (D ops.size).effs.length := fun hlt => by
      have hx : (D ops.size).effs[j]? = some ((D ops.size).effs[j]) := by simp [hlt]
      have := (h1.pre j _ hx).1 (by simpa using a3 _ (List.getElem_mem hlt))
      omega
    omega
  have hst : st = (D ops.size).st := by
    have := h1.stage
    rw [hj, a6] at this
    exact (Option.some.inj this).symm
  subst hst
  have hle1 : Dm.le ⟨holS H n ops.size (D ops.size).als (fun k => decide (k < ops.size)), (D ops.size).st.n⟩ ⟨H, (D ops.size).st.n⟩ := by
    intro i hi
    rw [Dm.has_iff] at hi ⊢
    refine ⟨hi.1, ?_⟩
    have := hi.2
    simp only [holS, Bool.or_eq_false_iff] at this
    exact this.1
  have hb := c.big _ (List.mem_of_getElem? h1.stage)
  have hol1 : ∀ i, (⟨H, (D ops.size).st.n⟩ : Dm).H i = true → i < (⟨H, (D ops.size).st.n⟩ : Dm).n := fun i hi => by
    have := hm.hol i hi
    simp only at this ⊢
    omega
  have hmem : memS n (D ops.size).als (fun k => decide (k < ops.size)) (D ops.size).st = addAll n ((D ops.size).als.filter fun x => !(D ops.size).st.mg.contains x.1) (D ops.size).st.m := by
    unfold memS
    rw [List.filter_congr fun x hx => by
      show (decide (x.1 < ops.size) && !(D ops.size).st.mg.contains x.1) = !(D ops.size).st.mg.contains x.1
      rw [decide_eq_true (a1 x hx), Bool.true_and]]
  have hex := h1.ex.leR hle1 hol1
  rw [hmem] at hex
  have hf1 := h1.fr.agree (γ := β1) hle1 fun _ _ => rfl
  have hsl : sls ops V fr.slots (fun k => decide (k < ops.size)) ops.size = (D ops.size).sl := by
    rw [sls_cut ops.size ops.size (Nat.le_refl _), c.t.sl_eq ops.size (Nat.le_refl _)]
  have htd1 : rf1.todo = .inRegion ops [] :: k.map (renI β1) := by rw [hf1.todo]; rfl
  have hmd1 : rf1.mode = .run := by rw [hf1.mode]; simp [hret]
  have hstep1 : ∀ cs, Go.step P (lone rf1 cs w1) = .next (lone { rf1 with todo := k.map (renI β1) } cs w1) := fun cs => by
    refine step_lone_go ?_
    obtain ⟨fn, tmps, td, defers, mode, kind, roundOf⟩ := rf1
    simp only at htd1 hmd1
    subst htd1; subst hmd1
    simp [stepG, stepG.exec]
  have hf2 : RelF β1 ⟨H, (D ops.size).st.n⟩ { fr with todo := k, slots := prune (keep fr.fn) (D ops.size).sl } { rf1 with todo := k.map (renI β1) } :=
    ⟨hf1.fn, ⟨hf1.tmps.1, fun t v hv => by
      have := lk_prune _ _ _ _ hv
      rw [← hsl] at this
      exact hf1.tmps.2 t v this⟩, rfl, fun x hx => hf1.todoB x (List.mem_cons_of_mem _ hx), hf1.defers, hf1.defersB, hf1.mode, hf1.kind, hf1.round, hf1.roundB⟩
  obtain ⟨v, m3, n3, β3, w3, q, ex3, hb3, hr3⟩ := hw H β1 w1 _ hf2 hex.rel
  refine ⟨v, m3, n3, β3, w3, q, hex.trans ex3, hb3, fun cs => ?_⟩
  obtain ⟨w4, rf4, s4, d4, sm4⟩ := hr3 cs
  refine ⟨w4, rf4, .head (hstep cs) ((stp1 cs).trans (.head (hstep1 cs) s4)), d4, ?_⟩
  have e1 : Same rf { rf with todo := .inRegion ops (Region.linearise .any ops (w.tape w.drawn (.order rf.fn id))) :: k.map (renI β) } := ⟨rfl, rfl, rfl⟩
  have e2 : Same rf1 { rf1 with todo := k.map (renI β1) } := ⟨rfl, rfl, rfl⟩
  exact e1.trans (sm1.trans (e2.trans sm4))
theorem draw_ok (hmix : P.follows .mixedOrders = true) : DrawOk P := by
  intro keep rec hrec fr m n ops fr' m' n' sl m2 n2 Q hs hd hw
  refine draw_chk hmix hs fun _ => ?_
  obtain ⟨hret, id, k, ht, rfl, rfl, rfl⟩ := stepA_draw hs
  obtain ⟨D, V, c, rfl, rfl, rfl⟩ := chk_of hrec hd
  exact ⟨rec, D, V, c, hw⟩

end
end Go.Ab
