/- The transformer is sound for W. -/
import Derived.Test.YtiomjekkmjinbaaAb32
namespace Go.Ab
open Go

section
variable {P : Program}

def EvXOk (P : Program) (ev : XEv) : Prop :=
  ∀ fn nt sl todo ds ret kind round m n Q, ev fn nt sl todo ds ret kind round m n Q → W P ⟨fn, nt, sl, todo, ds, ret, kind, round⟩ m n Q
theorem EvXOk.fr {ev : XEv} (h : EvXOk P ev) {c : AFrame} {m : Mem} {n : Nat} {Q : Value → Mem → Nat → Prop} (hx : xF ev c m n Q) : W P c m n Q := by
  obtain ⟨a, b, c, d, e, g, i, j⟩ := c
  exact h _ _ _ _ _ _ _ _ _ _ _ hx

theorem clX_sound {cfg : Cfg} {ev : XEv} (he : EvXOk P ev) (rt : Option (List TypeId)) (f : FuncId) (args : List Value) (m : Mem) (n : Nat) (K : Value → Mem → Nat → Prop) (h : clX P cfg ev rt f args m n K) :
    ∃ c, enterA P f args .normal = some c ∧ W P c m n K := by
  unfold clX at h
  split at h
  · unfold Wc at h
    split at h
    · rename_i fr hf
      refine ⟨fr, hf, h.mono fun v m n hr => ?_⟩
      obtain ⟨u, rfl, hK⟩ := exR_some hr
      exact hK
    · exact h.elim
  split at h
  · split at h
    · rename_i fr hf
      exact ⟨fr, hf, he.fr h⟩
    · exact h.elim
  · split at h
    · unfold Wc at h
      split at h
      · rename_i fr hf
        exact ⟨fr, hf, h.mono fun v m n ⟨hr, hK⟩ => by subst hr; exact hK⟩
      · exact h.elim
    unfold Wc at h
    split at h
    · rename_i fr hf
      refine ⟨fr, hf, h.mono fun v m n hr => ?_⟩
      obtain ⟨u, rfl, hK⟩ := exR_some hr
      exact hK
    · exact h.elim

theorem nextX_some {m : Mem} {n : Nat} {sl : Slots} {o : Oper} {K : Value → Mem → Nat → Prop} (h : nextX m n sl o K) :
    (evE P m n sl o = .val (.tuple #[.bool false]) m n ∧ K (.tuple #[.bool false]) m n) ∨ ∃ l, evE P m n sl o = .alts l ∧ ∀ x ∈ l, K x.1 x.2.1 x.2.2 := by
  unfold nextX at h
  split at h
  · rename_i it ho
    unfold evE
    rw [ho]
    rw [evOK_eq] at h
    split at h
    · rename_i p hp
      rcases elimP_cases h with ⟨_, h⟩ | ⟨r, off, rfl, h⟩
      · exact h.elim
      · simp only [elimP] at h
        split at h
        · simp only [hp]
          unfold nextE at h
          split at h
          · rename_i hg
            simp only [hg]
            exact .inl ⟨trivial, h⟩
          · rename_i mp since left cur hg
            simp only [hg]
            split at h
            · rename_i es clk hm
              obtain ⟨⟨h1, h2, h3⟩, h4, h5⟩ := h
              simp only [hm]
              rw [if_pos ⟨h1, h2⟩]
              unfold candsE at h4 h5
              split
              · rename_i hnil
                exact .inl ⟨rfl, h4 hnil⟩
              · rename_i hne
                refine .inr ⟨_, rfl, fun x hx => ?_⟩
                obtain ⟨e, he, rfl⟩ := List.mem_map.1 hx
                obtain ⟨k, v⟩ := e
                have hk := List.all_eq_true.1 h3 _ (List.mem_filter.1 he).1
                simp only at hk
                cases k with
                | int kk kn =>
                  simp only [keyOf, beq_iff_eq] at hk
                  subst hk
                  exact h5 kn v he
                | _ => simp [keyOf] at hk
            · exact h.elim
          · exact h.elim
        · exact h.elim
    · exact h.elim
  · exact h.elim

theorem regX_sound {call : CallX} (hc : ∀ rt f args m n K, call rt f args m n K → ∃ c, enterA P f args .normal = some c ∧ W P c m n K)
    {ops : Array Oper} {fn : FuncId} {nt : Nat} {k : List Item} {kind : CallKind} {round : Option Nat} {K : Slots → List Deferred → Mem → Nat → Prop} {Q : Value → Mem → Nat → Prop}
    (hd : ∀ d ∈ dsts ops, dstOk nt d = true)
    (hK : ∀ sl ds m n, K sl ds m n → W P ⟨fn, nt, sl, .inRegion ops [] :: k, ds, false, kind, round⟩ m n Q) :
    ∀ (os pre : List Oper), ops.toList = pre ++ os → ∀ sl ds m n, regX P call ops round K os sl ds m n →
      W P ⟨fn, nt, sl, .inRegion ops (List.range' pre.length os.length) :: k, ds, false, kind, round⟩ m n Q := by
  intro os
  induction os with
  | nil => intro pre _ sl ds m n h; exact hK sl ds m n h
  | cons o os ih =>
    intro pre hp sl0 ds m n h
    have ho : ops[pre.length]? = some o := by
      rw [← Array.getElem?_toList, hp, List.getElem?_append_right (Nat.le_refl _)]; simp
    have hdo : dstOk nt o.dst = true := hd _ (List.mem_map.2 ⟨o, by rw [hp]; simp, rfl⟩)
    have hih : ∀ sl ds m n, regX P call ops round K os sl ds m n → W P ⟨fn, nt, sl, .inRegion ops (List.range' (pre.length + 1) os.length) :: k, ds, false, kind, round⟩ m n Q := by
      intro sl ds m n h
      have := ih (pre ++ [o]) (by rw [hp]; simp) sl ds m n h
      simpa using this
    have hrng : List.range' pre.length (o :: os).length = pre.length :: List.range' (pre.length + 1) os.length := by simp [List.range'_succ]
    rw [hrng]
    simp only [regX] at h
    have hx := wantX_some h
    clear h
    obtain ⟨sl, hsl, h⟩ := hx
    refine W.slots hsl ?_
    simp only
    have hfin : ∀ v ds', finA ⟨fn, nt, sl, .inRegion ops (pre.length :: List.range' (pre.length + 1) os.length) :: k, ds', false, kind, round⟩ v =
        ⟨fn, nt, putO sl o.dst v, .inRegion ops (List.range' (pre.length + 1) os.length) :: k, ds', false, kind, round⟩ := by
      intro v ds'
      simp [finA, ho]
    have hst : stepA P (fun _ => none) ⟨fn, nt, sl, .inRegion ops (pre.length :: List.range' (pre.length + 1) os.length) :: k, ds, false, kind, round⟩ m n =
        match wantedA ops sl o with
        | some true => operA P ⟨fn, nt, sl, .inRegion ops (pre.length :: List.range' (pre.length + 1) os.length) :: k, ds, false, kind, round⟩ o m n
        | some false => .go (finA ⟨fn, nt, sl, .inRegion ops (pre.length :: List.range' (pre.length + 1) os.length) :: k, ds, false, kind, round⟩ undef) m n
        | none => .fail := by
      simp only [stepA, ho, hdo, if_true, Bool.false_eq_true, if_false]
      rfl
    rcases h with ⟨_, hw, h⟩ | ⟨_, hw, h⟩
    · rw [hw] at hst
      simp only [operA] at hst
      unfold oneX at h
      split at h
      · rename_i hq
        obtain ⟨v, hv, h⟩ := qX_some h
        rw [evQX_eq] at hv
        simp only [evOp, hq, if_true, hv, hfin] at hst
        exact W.go (fun _ => none) hst (hih _ _ _ _ h)
      · rename_i hq
        split at h
        · split at h
          · rename_i hev
            rw [evOpX_eq] at hev
            rw [hev] at hst
            simp only [hfin] at hst
            exact W.go (fun _ => none) hst (hih _ _ _ _ h)
          · exact h.elim
        have hev : evOp P m n sl o = evE P m n sl o := by simp [evOp, hq]
        rw [hev] at hst
        split at h
        · rcases nextX_some (P := P) h with ⟨he, h⟩ | ⟨l, he, h⟩
          · rw [he] at hst
            simp only [hfin] at hst
            exact W.go (fun _ => none) hst (hih _ _ _ _ h)
          · rw [he] at hst
            simp only [hfin] at hst
            refine W.alts (fun _ => none) hst fun x hx => ?_
            obtain ⟨y, hy, rfl⟩ := List.mem_map.1 hx
            exact hih _ _ _ _ (h y hy)
        ·
          rcases eX_some (F := fun c K => W P c m n K) (fun rt f args K => hc rt f args m n K) (fun _ _ _ => yldX_some) h with ⟨v, m', n', he, h⟩ | ⟨f, args, c, he, hen, h⟩ | ⟨l, args, c, he, hen, h⟩
          · rw [evEX_eq] at he
            rw [he] at hst
            simp only [hfin] at hst
            exact W.go (fun _ => none) hst (hih _ _ _ _ h)
          · rw [evEX_eq] at he
            rw [he] at hst
            simp only [hen] at hst
            refine W.call (fun _ => none) hst h fun v m2 n2 hv => ?_
            rw [enterA_kind hen]
            simp only [afterA]
            rw [hfin]
            exact hih _ _ _ _ hv
          · rw [evEX_eq] at he
            rw [he] at hst
            simp only [hen] at hst
            have hk : c.kind = .normal := by
              unfold roundA at hen
              split at hen
              · split at hen
                · simp only [Option.some.injEq] at hen; subst hen; rfl
                · cases hen
              · cases hen
            refine W.call (fun _ => none) hst h fun v m2 n2 hv => ?_
            rw [hk]
            simp only [afterA]
            rw [hfin]
            exact hih _ _ _ _ hv
    · rw [hw] at hst
      simp only [hfin] at hst
      exact W.go (fun _ => none) hst (hih _ _ _ _ h)

theorem resX_some {m : Mem} {sl : Slots} {K : List Value → Prop} : ∀ {l : List ResultVar} {acc : List Value}, resX P m sl K l acc → ∃ vs, resultsA P m sl l = some vs ∧ K (acc.reverse ++ vs)
  | [], acc, h => ⟨[], rfl, by simpa [resX] using h⟩
  | .tmp t :: l, acc, h => by
    simp only [resX, lkK_eq] at h
    split at h
    · rename_i v hv
      obtain ⟨vs, h1, h2⟩ := resX_some h
      exact ⟨v :: vs, by simp [resultsA, hv, h1], by simpa using h2⟩
    · exact h.elim
  | .cell a t :: l, acc, h => by
    simp only [resX, lkK_eq] at h
    split at h
    · rename_i p hp
      rcases elimP_cases h with ⟨_, h⟩ | ⟨i, o, rfl, h⟩
      · exact h.elim
      · obtain ⟨v, hv, h⟩ := ldX_some h
        obtain ⟨vs, h1, h2⟩ := resX_some h
        exact ⟨v :: vs, by simp [resultsA, hp, h1, hv], by simpa using h2⟩
    · exact h.elim

theorem unwX_sound {ev : XEv} (he : EvXOk P ev) {fn : FuncId} {nt : Nat} {sl : Slots} {todo : List Item} {ds : List Deferred} {kind : CallKind} {m : Mem} {n : Nat} {Q : Value → Mem → Nat → Prop}
    (h : unwX P ev fn nt sl todo ds kind m n Q) : W P ⟨fn, nt, sl, todo, ds, true, kind, none⟩ m n Q := by
  unfold unwX at h
  split at h
  · split at h
    · rename_i f hf
      obtain ⟨vs, h1, h2⟩ := resX_some h
      refine W.ret (fun _ => none) (v := oneOf vs) (m' := m) (n' := n) (by simp [stepA, unwindA, hf, h1]) (by simpa using h2)
    · exact h.elim
  · rename_i b args ds
    obtain ⟨hg, h⟩ := h
    refine W.go (fun _ => none) ?_ (he _ _ _ _ _ _ _ _ _ _ _ h)
    simp [stepA, unwindA, hg]
  · split at h
    · rename_i f cap args ds _ c hen
      have hk : c.kind = .deferred := enterA_kind hen
      refine W.call (fun _ => none) (fr' := ⟨fn, nt, sl, todo, ds, true, kind, none⟩) (by simp [stepA, unwindA, hen]) h fun v m n hv => ?_
      rw [hk]
      exact he _ _ _ _ _ _ _ _ _ _ _ hv
    · exact h.elim
  · exact h.elim

theorem unwL_sound {fn : FuncId} {nt : Nat} {sl : Slots} {todo : List Item} {kind : CallKind} {n : Nat} {Q : Value → Mem → Nat → Prop} {f : Func} (hf : P.funcs[fn]? = some f) : ∀ (bs : List Nat) (m : Mem), bs.Nodup → (∀ b ∈ bs, m.get b = some (.deferred (some []))) →
    resX P (clrAll bs m) sl (fun vs => Q (oneOf vs) (clrAll bs m) n) f.results.toList [] → W P ⟨fn, nt, sl, todo, bs.map collD, true, kind, none⟩ m n Q
  | [], m, _, _, h => by
    obtain ⟨vs, h1, h2⟩ := resX_some h
    exact W.ret (fun _ => none) (v := oneOf vs) (m' := m) (n' := n) (by simp [stepA, unwindA, hf]; rw [show resultsA P m sl f.results.toList = some vs from h1]) (by simpa [clrAll] using h2)
  | b :: bs, m, hn, hb, h => by
    have hg := hb b (List.mem_cons_self ..)
    have hnd := List.nodup_cons.1 hn
    refine W.go (fun _ => none) (fr' := ⟨fn, nt, sl, todo, bs.map collD, true, kind, none⟩) (m' := m.set b (.deferred none)) (n' := n) ?_ (unwL_sound hf bs _ hnd.2 (fun c hc => ?_) h)
    · simp [stepA, unwindA, hg, collD]
    · have : ¬ b = c := fun e => hnd.1 (e ▸ hc)
      rw [Tr.get_set, if_neg this]
      exact hb c (List.mem_cons_of_mem _ hc)

theorem leaveX_sound {ev : XEv} (he : EvXOk P ev) {fn : FuncId} {nt : Nat} {sl : Slots} {todo : List Item} {ds : List Deferred} {kind : CallKind} {round : Option Nat} {m : Mem} {n : Nat} {Q : Value → Mem → Nat → Prop}
    {jump : Option Code} (hst : stepA P (fun _ => none) ⟨fn, nt, sl, todo, ds, false, kind, round⟩ m n = leaveA ⟨fn, nt, sl, todo, ds, false, kind, round⟩ m n jump)
    (h : leaveX ev fn nt sl todo ds kind round m n Q jump) : W P ⟨fn, nt, sl, todo, ds, false, kind, round⟩ m n Q := by
  unfold leaveX at h
  split at h
  · split at h
    · exact W.go (fun _ => none) hst (he _ _ _ _ _ _ _ _ _ _ _ h)
    · exact W.go (fun _ => none) hst (he _ _ _ _ _ _ _ _ _ _ _ h)
    · exact h.elim
  · split at h
    · rename_i l
      split at h
      · obtain ⟨o, hg, ho, h⟩ := h
        cases o with
        | loop => exact W.ret (fun _ => none) (hst.trans (by simp [leaveA, hg, lpSet])) h
        | _ => cases ho
      · obtain ⟨o, hg, ho, h⟩ := h
        cases o with
        | loop => exact W.ret (fun _ => none) (hst.trans (by simp [leaveA, hg, lpSet])) h
        | _ => cases ho
    · exact h.elim

mutual
theorem vEq_refl : ∀ v : Value, vEq v v = true
  | .string s => by
    obtain ⟨⟨x⟩⟩ := s
    show ((⟨x⟩ : Array UInt8) == ⟨x⟩) = true
    simp
  | .bool _ | .int .. | .float .. | .complex .. | .pointer _ | .slice .. | .map _ | .chan _ | .nilFunc | .nilIface => by simp [vEq]
  | .func _ ⟨a⟩ ⟨b⟩ => by simp [vEq, vEqL_refl a, vEqL_refl b]
  | .iface _ v => by simp [vEq, vEq_refl v]
  | .agg ⟨a⟩ => by simp [vEq, vEqL_refl a]
  | .tuple ⟨a⟩ => by simp [vEq, vEqL_refl a]
theorem vEqL_refl : ∀ l : List Value, vEqL l l = true
  | [] => rfl
  | v :: l => by simp [vEqL, vEq_refl v, vEqL_refl l]
end

def recN : AFrame → Mem → Nat → Res := fun _ _ _ => none

/-- A recursion that knows one call's one end. -/
noncomputable def recOne (c : AFrame) (m : Mem) (n : Nat) (r : Value × Mem × Nat) : AFrame → Mem → Nat → Res := fun c' m' n' =>
  open Classical in if c' = c ∧ m' = m ∧ n' = n then some [r] else none
theorem recOne_ok {c : AFrame} {m : Mem} {n : Nat} {v : Value} {m' : Mem} {n' : Nat} (h : W P c m n fun v1 m1 n1 => v1 = v ∧ m1 = m' ∧ n1 = n') : RecOk P (recOne c m n (v, m', n')) := by
  intro c1 m1 n1 rs hr
  unfold recOne at hr
  split at hr
  · rename_i e
    obtain ⟨rfl, rfl, rfl⟩ := e
    cases hr
    exact h.mono fun v m n ⟨h1, h2, h3⟩ => by subst h1; subst h2; subst h3; simp
  · cases hr

/-- One end of a call. -/
def OneEnd (P : Program) (m : Mem) (n : Nat) (c : AFrame) (K : Value → Mem → Nat → Prop) : Prop :=
  ∃ v m' n', W P c m n (fun v1 m1 n1 => v1 = v ∧ m1 = m' ∧ n1 = n') ∧ K v m' n'
theorem callD_some (hmix : P.follows .mixedOrders = true) {cfg : Cfg} {m : Mem} {n : Nat} (rt : Option (List TypeId)) (f : FuncId) (args : List Value) (K : Value → Mem → Nat → Prop) (h : callD P cfg rt f args m n K) : ∃ c, enterA P f args .normal = some c ∧ OneEnd P m n c K := by
  unfold callD at h
  split at h
  · obtain ⟨u, m', n', hw, hK⟩ := exR_some h
    unfold Wc at hw
    split at hw
    · rename_i fr hf
      exact ⟨fr, hf, u, m', n', hw, hK⟩
    · exact hw.elim
  split at h
  · split at h
    · rename_i v m' n' hk
      unfold callK at hk
      split at hk
      · rename_i fr hf
        refine ⟨fr, hf, v, m', n', ((evK_sound (draw_ok hmix) (fun _ => none) 200).rec fr m n _ hk).mono fun v m n hm => ?_, h⟩
        simpa using hm
      · cases hk
    · exact h.elim
  have h' : ∃ u m' n', Wc P f args m n (fun v m1 n1 => v = u ∧ m1 = m' ∧ n1 = n') ∧ K u m' n' := by
    split at h
    · rename_i u _
      exact ⟨u, h⟩
    · exact exR_some h
  obtain ⟨u, m', n', hw, hK⟩ := h'
  unfold Wc at hw
  split at hw
  · rename_i fr hf
    exact ⟨fr, hf, u, m', n', hw, hK⟩
  · exact hw.elim
theorem yldD_some {m : Mem} {n : Nat} (l : Nat) (args : List Value) (K : Value → Mem → Nat → Prop) (h : yldD P l args m n K) : ∃ c, roundA m l args = some c ∧ OneEnd P m n c K := by
  obtain ⟨fr, b, m', n', h1, h2, h3⟩ := h
  exact ⟨fr, h1, _, m', n', h2, h3⟩
theorem effD_some (hmix : P.follows .mixedOrders = true) {cfg : Cfg} {m : Mem} {n : Nat} {sl : Slots} {o : Oper} {K : Value → Mem → Nat → Prop} (h : eX P (callD P cfg) (yldD P) m n sl o K) :
    ∃ v m' n', (∃ rec', RecOk P rec' ∧ drawEff P rec' m n sl o = some (v, m', n')) ∧ K v m' n' := by
  rcases eX_some (F := OneEnd P m n) (callD_some hmix) yldD_some h with ⟨v, m', n', he, h⟩ | ⟨f, args, c, he, hen, v, m', n', hw, h⟩ | ⟨l, args, c, he, hen, v, m', n', hw, h⟩
  · exact ⟨v, m', n', ⟨recN, (fun _ _ _ _ h => by cases h), by rw [← drawEffX_eq]; simp only [drawEffX, he]⟩, h⟩
  · exact ⟨v, m', n', ⟨_, recOne_ok hw, by rw [← drawEffX_eq]; simp [drawEffX, he, hen, recOne]⟩, h⟩
  · exact ⟨v, m', n', ⟨_, recOne_ok hw, by rw [← drawEffX_eq]; simp [drawEffX, he, hen, recOne]⟩, h⟩

theorem aX_some {sl : Slots} {o : Oper} {i : Nat} {K : AObj → Value → Prop} (h : aX P sl o i K) : ∃ ob v, evA P sl o i = some (ob, v) ∧ K ob v := by
  unfold aX at h
  split at h
  · rename_i t l c ho
    split at h
    · rename_i elem l c hu hl hcc
      split at h
      · rename_i info z hi hz
        split at h
        · rename_i hb
          have hb := Nat.eq_of_beq_eq_true hb
          refine ⟨_, _, ?_, h.2⟩
          simp only [evA, ho, hu, ← evOK_eq, hl, hcc, hi, hz]
          rw [if_pos ⟨h.1.1, h.1.2.1, h.1.2.2, hb⟩]
        · exact h.elim
      · exact h.elim
    · exact h.elim
  · split at h
    · rename_i ob v he
      exact ⟨ob, v, he, h⟩
    · exact h.elim

theorem setF_eq : ∀ {sl : Slots} {t : Nat} {v : Value}, lk sl t = some v → setF sl t v = sl
  | [], _, _, h => by cases h
  | (s, u) :: l, t, v, h => by
    simp only [lk] at h
    simp only [setF]
    cases e : Nat.beq s t with
    | true =>
      rw [if_pos (Nat.eq_of_beq_eq_true e)] at h
      cases h; rfl
    | false =>
      rw [if_neg (Nat.ne_of_beq_eq_false e)] at h
      simp only [setF_eq h]
theorem wantD_some {one : Bool} {ops : Array Oper} {sl : Slots} {o : Oper} {Ky Kn : Slots → Prop} (h : wantD one ops sl o Ky Kn) : (wantedA ops sl o = some true ∧ Ky sl) ∨ (wantedA ops sl o = some false ∧ Kn sl) := by
  unfold wantD at h
  unfold wantedA
  split at h
  · rename_i hg
    rw [hg]
    exact .inl ⟨rfl, h⟩
  · rename_i j want hg
    rw [hg]
    simp only
    split at h
    · rename_i t ht
      rw [ht]
      simp only [lkK_eq] at h ⊢
      split at h
      · rename_i b hb
        rw [hb]
        split at h
        · split at h
          · rcases cond_cases h with ⟨rfl, h⟩ | ⟨rfl, h⟩
            · rw [setF_eq hb] at h; exact .inl ⟨rfl, h⟩
            · exact h.elim
          · rcases cond_cases h with ⟨rfl, h⟩ | ⟨rfl, h⟩
            · exact h.elim
            · rw [setF_eq hb] at h; exact .inl ⟨rfl, h⟩
        split at h
        · rcases cond_cases h with ⟨rfl, h⟩ | ⟨rfl, h⟩
          · rw [setF_eq hb] at h; exact .inl ⟨rfl, h⟩
          · rw [setF_eq hb] at h; exact .inr ⟨rfl, h⟩
        · rcases cond_cases h with ⟨rfl, h⟩ | ⟨rfl, h⟩
          · rw [setF_eq hb] at h; exact .inr ⟨rfl, h⟩
          · rw [setF_eq hb] at h; exact .inl ⟨rfl, h⟩
      · rename_i v hnb hb
        rw [hb]
        refine .inr ?_
        cases v with
        | bool b => exact (hnb b rfl).elim
        | _ => exact ⟨rfl, h⟩
      · exact h.elim
    · rename_i ht
      rw [ht]
      exact .inr ⟨rfl, h⟩

theorem drOp_some (hmix : P.follows .mixedOrders = true) {cfg : Cfg} {ops : Array Oper} {n0 i : Nat} {o : Oper} {d : Dr} {K : Dr → Prop} (h : drOp P cfg ops (Region.before ops) n0 i o d K) : ∃ d' v, OpR P recN ops (Region.before ops) n0 i o d d' v ∧ K d' := by
  obtain ⟨sl, ⟨m, mg, n⟩, als, effs, hist, looks⟩ := d
  unfold drOp at h
  simp only [memLet] at h
  rcases wantD_some h with ⟨hw, h⟩ | ⟨hw, h⟩
  · split at h
    · obtain ⟨ob, v, he, h⟩ := aX_some h
      rw [restrK_eq] at he
      exact ⟨_, v, .alloc ob v hw he rfl, h⟩
    · split at h
      · obtain ⟨v, he, h⟩ := qX_some h
        rw [restrK_eq] at he h
        rw [evQX_eq] at he
        exact ⟨_, v, .quiet v hw he rfl, h⟩
      · split at h
        · rename_i hall
          obtain ⟨v, m', n', he, h⟩ := effD_some hmix h
          rw [restrK_eq] at he
          exact ⟨_, v, .eff v m' n' hw hall he rfl, h⟩
        · exact h.elim
  · exact ⟨_, undef, .skip hw rfl, h⟩

theorem drOps_some (hmix : P.follows .mixedOrders = true) {cfg : Cfg} {ops : Array Oper} {n0 : Nat} {K : Dr → Prop} : ∀ {l : List (Oper × Nat)} {d0 : Dr}, drOps P cfg ops (Region.before ops) n0 K l d0 →
    ∃ D : Nat → Dr, D 0 = d0 ∧ K (D l.length) ∧ ∀ k x, l[k]? = some x → ∃ v, OpR P recN ops (Region.before ops) n0 x.2 x.1 (D k) (D (k + 1)) v
  | [], d0, h => ⟨fun _ => d0, rfl, h, fun k x hx => by simp at hx⟩
  | (o, i) :: l, d0, h => by
    simp only [drOps] at h
    obtain ⟨d1, v, h1, h⟩ := drOp_some hmix h
    obtain ⟨D, hD0, hD1, hD2⟩ := drOps_some hmix h
    refine ⟨fun k => match k with | 0 => d0 | k + 1 => D k, rfl, hD1, fun k x hx => ?_⟩
    cases k with
    | zero =>
      simp only [List.getElem?_cons_zero, Option.some.injEq] at hx; subst hx
      simp only [hD0]; exact ⟨v, h1⟩
    | succ k => exact hD2 k x (by simpa using hx)

theorem traX (hmix : P.follows .mixedOrders = true) {cfg : Cfg} {ops : Array Oper} {n0 : Nat} {K : Dr → Prop} {d0 : Dr} (h : drOps P cfg ops (Region.before ops) n0 K ops.toList.zipIdx d0) : ∃ D V, Tra P recN ops (Region.before ops) n0 d0 D V ∧ K (D ops.size) := by
  obtain ⟨D, h0, h1, h2⟩ := drOps_some hmix h
  have hex : ∀ i, ∃ v, ∀ o, ops[i]? = some o → OpR P recN ops (Region.before ops) n0 i o (D i) (D (i + 1)) v := by
    intro i
    cases ho : ops[i]? with
    | none => exact ⟨undef, fun o h => by cases h⟩
    | some o =>
      have hx : ops.toList.zipIdx[i]? = some (o, i) := by
        rw [List.getElem?_zipIdx]
        simp [ho]
      obtain ⟨v, hv⟩ := h2 i (o, i) hx
      exact ⟨v, fun o' h' => by cases h'; exact hv⟩
  obtain ⟨V, hV⟩ := Classical.skolem.1 hex
  refine ⟨D, V, ⟨h0, fun i o ho => hV i o ho⟩, ?_⟩
  have : ops.toList.zipIdx.length = ops.size := by simp
  rw [this] at h1; exact h1

theorem tra_looks {ops : Array Oper} {n0 : Nat} {sl0 : Slots} {m0 : Mem} {D : Nat → Dr} {V : Nat → Value} (t : Tra P recN ops (Region.before ops) n0 (dr0 sl0 m0 n0 ops.size) D V) : ∀ i, i ≤ ops.size → ∀ x ∈ (D i).looks,
    x.1 < i ∧ evQ P (addAll n0 (waits (D x.1).als ((Region.before ops).getD x.1 0) (D x.1).st.mg) (D x.1).st.m) x.2.2.1 x.2.1 = some x.2.2.2 := by
  intro i
  induction i with
  | zero => intro _; rw [t.zero]; intro x hx; cases hx
  | succ i ih =>
    intro hi
    have ih := ih (by omega)
    have up : ∀ x ∈ (D i).looks, x.1 < i + 1 ∧ evQ P (addAll n0 (waits (D x.1).als ((Region.before ops).getD x.1 0) (D x.1).st.mg) (D x.1).st.m) x.2.2.1 x.2.1 = some x.2.2.2 :=
      fun x hx => ⟨Nat.lt_succ_of_lt (ih x hx).1, (ih x hx).2⟩
    have hop := t.op i ops[i] (by simp [show i < ops.size by omega])
    generalize V i = v0 at hop
    cases hop with
    | skip e1 e2 => rw [e2]; exact up
    | alloc ob v e1 e2 e3 => rw [e3]; exact up
    | quiet v e1 e2 e3 =>
      rw [e3]
      intro x hx
      rcases List.mem_cons.1 hx with rfl | hx
      · exact ⟨Nat.lt_succ_self _, e2⟩
      · exact up x hx
    | eff v m n e1 e2 e3 e4 => rw [e4]; exact up

theorem stageX_some {n0 bits lo hi own : Nat} {als : List (Nat × AObj)} {sl : Slots} {o : Oper} {v : Value} {K : Prop} : ∀ {l : List Stg} {k : Nat}, stageX P n0 als bits lo hi own sl o v K k l →
    K ∧ ∀ x ∈ l.zipIdx k, lo ≤ x.2 → x.2 ≤ hi → x.2 ≠ own → evQ P (addAll n0 (waits als bits x.1.mg) x.1.m) sl o = some v
  | [], _, h => ⟨h, fun x hx => by cases hx⟩
  | st :: l, j, h => by
    simp only [stageX, memLet] at h
    split at h
    · obtain ⟨h1, h⟩ := h
      have hx := qX_some h1
      clear h1
      obtain ⟨u, h1, rfl⟩ := hx
      rw [evQX_eq] at h1
      obtain ⟨hK, h⟩ := stageX_some h
      refine ⟨hK, fun x hx a b c => ?_⟩
      rw [List.zipIdx_cons] at hx
      rcases List.mem_cons.1 hx with rfl | hx
      · exact h1
      · exact h x hx a b c
    · rename_i hb
      obtain ⟨hK, h⟩ := stageX_some h
      refine ⟨hK, fun x hx a b c => ?_⟩
      rw [List.zipIdx_cons] at hx
      rcases List.mem_cons.1 hx with rfl | hx
      · have e1 : Nat.ble lo j = true := (Nat.ble_eq ..).mpr a
        have e2 : Nat.ble j hi = true := (Nat.ble_eq ..).mpr b
        have e3 : Nat.beq j own = false := by
          cases e : Nat.beq j own with
          | false => rfl
          | true => exact (c (Nat.eq_of_beq_eq_true e)).elim
        rw [e1, e2, e3] at hb
        cases hb
      · exact h x hx a b c
theorem looksX_some {b : Array Nat} {n0 : Nat} {als : List (Nat × AObj)} {effs : List Nat} {hist : List Stg} {K : Prop} : ∀ {l : List (Nat × Oper × Slots × Value)}, looksX P b n0 als effs hist K l →
    K ∧ ∀ x ∈ l, (effs.isEmpty || stillOp x.2.1.op) = false →
    ∀ s ∈ hist.zipIdx, (effs.filter fun e => (b.getD x.1 0).testBit e).length ≤ s.2 → s.2 ≤ (effs.filter fun e => !(b.getD e 0).testBit x.1).length → s.2 ≠ (effs.filter fun e => Nat.blt e x.1).length →
      evQ P (addAll n0 (waits als (b.getD x.1 0) s.1.mg) s.1.m) x.2.2.1 x.2.1 = some x.2.2.2
  | [], h => ⟨h, fun x hx => by cases hx⟩
  | (i, o, sl, v) :: l, h => by
    simp only [looksX] at h
    split at h
    · rename_i hb
      obtain ⟨hK, h⟩ := looksX_some h
      refine ⟨hK, fun y hy hn => ?_⟩
      rcases List.mem_cons.1 hy with rfl | hy
      · rw [hb] at hn; cases hn
      · exact h y hy hn
    · rename_i hb
      obtain ⟨h, h2⟩ := stageX_some h
      obtain ⟨hK, h⟩ := looksX_some h
      refine ⟨hK, fun y hy hn => ?_⟩
      rcases List.mem_cons.1 hy with rfl | hy
      · exact h2
      · exact h y hy hn
theorem bigX_some {k : Nat} {K : Prop} : ∀ {l : List Stg}, bigX k K l → K ∧ ∀ st ∈ l, k ≤ st.n
  | [], h => ⟨h, fun x hx => by cases hx⟩
  | ⟨m, mg, n⟩ :: l, h => by
    obtain ⟨h1, h⟩ := h
    obtain ⟨hK, h⟩ := bigX_some h
    exact ⟨hK, fun y hy => by
      rcases List.mem_cons.1 hy with rfl | hy
      · exact h1
      · exact h y hy⟩
theorem apartX_some {n0 : Nat} {m : Mem} {mg : List Nat} {K : Prop} : ∀ {l : List (Nat × AObj)}, apartX n0 m mg K l → K ∧ ∀ x ∈ l, mg.contains x.1 = false → m.get (n0 + x.1) = none
  | [], h => ⟨h, fun x hx => by cases hx⟩
  | (i, ob) :: l, h => by
    simp only [apartX] at h
    split at h
    · rename_i hc
      obtain ⟨hK, h⟩ := apartX_some h
      refine ⟨hK, fun y hy hn => ?_⟩
      rcases List.mem_cons.1 hy with rfl | hy
      · rw [hc] at hn; cases hn
      · exact h y hy hn
    · obtain ⟨h1, h⟩ := h
      obtain ⟨hK, h⟩ := apartX_some h
      refine ⟨hK, fun y hy hn => ?_⟩
      rcases List.mem_cons.1 hy with rfl | hy
      · exact h1
      · exact h y hy hn
theorem apartsX_some {n0 : Nat} {als : List (Nat × AObj)} {K : Prop} : ∀ {l : List Stg}, apartsX n0 als K l → K ∧ ∀ st ∈ l, ∀ x ∈ als, st.mg.contains x.1 = false → st.m.get (n0 + x.1) = none
  | [], h => ⟨h, fun x hx => by cases hx⟩
  | ⟨m, mg, n⟩ :: l, h => by
    obtain ⟨h, h1⟩ := apartX_some h
    obtain ⟨hK, h⟩ := apartsX_some h
    exact ⟨hK, fun y hy => by
      rcases List.mem_cons.1 hy with rfl | hy
      · exact h1
      · exact h y hy⟩

theorem drX_some (hmix : P.follows .mixedOrders = true) {cfg : Cfg} {ops : Array Oper} {nt : Nat} {sl : Slots} {m : Mem} {n : Nat} {K : Slots → Mem → Nat → Prop} (h : drX P cfg ops nt sl m n K) (hf : ∀ i, n ≤ i → m.get i = none) :
    ∃ D V, Chk P recN ops n D V sl m nt ∧ K (D ops.size).sl (addAll n ((D ops.size).als.filter fun x => !(D ops.size).st.mg.contains x.1) (D ops.size).st.m) (D ops.size).st.n := by
  unfold drX at h
  split at h
  · rename_i ho
    rw [ordX_eq] at ho
    have hord := ord_of ho
    obtain ⟨D, V, t, h⟩ := traX hmix h
    have h : looksX P (Region.before ops) n (D ops.size).als (D ops.size).effs (D ops.size).hist (bigX (n + ops.size) (apartsX n (D ops.size).als (K (D ops.size).sl
      (addAll n ((D ops.size).als.filter fun x => !(D ops.size).st.mg.contains x.1) (D ops.size).st.m) (D ops.size).st.n) (D ops.size).hist.tail) (D ops.size).hist.tail) (D ops.size).looks := h
    obtain ⟨h, hl⟩ := looksX_some h
    obtain ⟨h, hb⟩ := bigX_some h
    obtain ⟨hK, ha⟩ := apartsX_some h
    obtain ⟨a1, a2, a3, a4, a5, a6⟩ := t.als_ext ops.size (Nat.le_refl _)
    have h00 := (t.st_at (i := 0) (by omega)).1
    rw [t.zero] at h00
    have hh : (D ops.size).hist = ⟨m, [], n + ops.size⟩ :: (D ops.size).hist.tail := by
      cases e : (D ops.size).hist with
      | nil => rw [e] at a5; simp at a5
      | cons x l =>
        rw [e] at h00
        simp only [List.length_nil, List.getElem?_cons_zero, Option.some.injEq] at h00
        rw [h00]; rfl
    refine ⟨D, V, ⟨t, hord, ?_, ?_, ?_⟩, hK⟩
    · cases he : (D ops.size).effs with
      | nil => exact .inl rfl
      | cons e0 es0 =>
        right
        intro x hx
        cases hs : stillOp x.2.1.op with
        | true => exact .inl rfl
        | false =>
          right
          obtain ⟨hlt, hev⟩ := tra_looks t ops.size (Nat.le_refl _) x hx
          obtain ⟨hst, ee, e1, e2⟩ := t.st_at (i := x.1) (by omega)
          obtain ⟨_, _, b3, _, _, _⟩ := t.als_ext x.1 (by omega)
          have hown : ((D ops.size).effs.filter fun e => Nat.blt e x.1).length = (D x.1).effs.length := by
            rw [e1, List.filter_append]
            have f1 : (D x.1).effs.filter (fun e => Nat.blt e x.1) = (D x.1).effs := List.filter_eq_self.2 fun e he => by
              have := b3 e he
              simpa using this
            have f2 : ee.filter (fun e => Nat.blt e x.1) = [] := List.filter_eq_nil_iff.2 fun e he hbe => by
              have h1 := e2 e he
              have h2 : e < x.1 := by simpa using hbe
              omega
            rw [f1, f2, List.append_nil]
          have hne : ((D ops.size).effs.isEmpty || stillOp x.2.1.op) = false := by rw [he, hs]; rfl
          obtain ⟨xi, xo, xs, xv⟩ := x
          unfold lookOk
          simp only [List.all_eq_true]
          intro s hsm
          obtain ⟨st, j⟩ := s
          simp only
          split
          · rename_i hij
            have hq : evQ P (addAll n (waits (D ops.size).als ((Region.before ops).getD xi 0) st.mg) st.m) xs xo = some xv := by
              by_cases hj : j = ((D ops.size).effs.filter fun e => Nat.blt e xi).length
              · have hget := List.mem_iff_getElem?.1 hsm
                obtain ⟨q, hq⟩ := hget
                rw [List.getElem?_zipIdx] at hq
                cases hg : (D ops.size).hist[q]? with
                | none => rw [hg] at hq; cases hq
                | some st' =>
                  rw [hg] at hq
                  simp only [Option.map_some, Nat.zero_add, Option.some.injEq, Prod.mk.injEq] at hq
                  obtain ⟨rfl, rfl⟩ := hq
                  rw [hj, hown, hst] at hg
                  cases hg
                  rw [← t.waits_eq hord hlt]
                  exact hev
              · exact hl _ hx hne (st, j) hsm hij.1 hij.2 hj
            rw [hq]
            exact vEq_refl _
          · rfl
    · intro st hst
      rw [hh] at hst
      rcases List.mem_cons.1 hst with rfl | hst
      · exact Nat.le_refl _
      · exact hb st hst
    · intro st hst x hx hc
      rw [hh] at hst
      rcases List.mem_cons.1 hst with rfl | hst
      · exact hf _ (Nat.le_add_right _ _)
      · exact ha st hst x hx hc
  · exact h.elim

theorem altX_some {c : Code} {K : Nat → Prop} : ∀ {l : List Nat}, altX l c K → ∃ i, c = .exit i ∧ K i
  | [], h => h.elim
  | i :: l, h => by
    rcases h with ⟨h1, h2⟩ | h
    · exact ⟨i, h1, h2⟩
    · exact altX_some h
theorem stepX_sound (hmix : P.follows .mixedOrders = true) {cfg : Cfg} {ev : XEv} (he : EvXOk P ev) : EvXOk P (stepX P cfg ev) := by
  intro fn nt sl todo ds ret kind round m n Q h
  unfold stepX at h
  split at h
  · split at h
    · split at h
      · obtain ⟨bs, ⟨rfl, h1, h2⟩, h⟩ := h
        split at h
        · rename_i f hf
          exact unwL_sound hf bs m h1 h2 h
        · exact h.elim
      · exact unwX_sound he h
    · exact h.elim
  · split at h
    · exact leaveX_sound he rfl h
    · rename_i x k
      unfold itemX at h
      split at h
      · rename_i c
        unfold codeX at h
        split at h
        · exact W.go (fun _ => none) rfl (he _ _ _ _ _ _ _ _ _ _ _ h)
        · exact W.go (fun _ => none) rfl (he _ _ _ _ _ _ _ _ _ _ _ h)
        · exact W.go (fun _ => none) rfl (he _ _ _ _ _ _ _ _ _ _ _ h)
        · rename_i c x y
          rw [evOK_eq] at h
          split at h
          · rename_i b hc
            have hput : ∀ {b : Bool}, evO sl c = some (.bool b) → ∀ s v, lk (refB c b sl) s = some v → lk sl s = some v := by
              intro b hb s v hs
              unfold refB at hs
              split at hs
              · rename_i t
                rw [lk_put] at hs
                split at hs
                · rename_i e; subst e
                  have : lk sl t = some (.bool b) := hb
                  rw [this]; exact hs
                · exact hs
              · exact hs
            rcases cond_cases h with ⟨rfl, h2⟩ | ⟨rfl, h2⟩
            · exact W.go (fun _ => none) (fr' := ⟨fn, nt, sl, .code x :: k, ds, false, kind, round⟩) (m' := m) (n' := n) (by simp [stepA, hc]) (W.slots (hput hc) (he _ _ _ _ _ _ _ _ _ _ _ h2))
            · exact W.go (fun _ => none) (fr' := ⟨fn, nt, sl, .code y :: k, ds, false, kind, round⟩) (m' := m) (n' := n) (by simp [stepA, hc]) (W.slots (hput hc) (he _ _ _ _ _ _ _ _ _ _ _ h2))
          · exact h.elim
        · exact W.go (fun _ => none) rfl (he _ _ _ _ _ _ _ _ _ _ _ h)
        · exact W.go (fun _ => none) rfl (W.slots (fun t v ht => lk_pruneK ht) h)
        · exact W.go (fun _ => none) rfl (he _ _ _ _ _ _ _ _ _ _ _ h)
        · rename_i id
          split at h
          · rename_i k' hk
            exact W.go (fun _ => none) (fr' := ⟨fn, nt, sl, k', ds, false, kind, round⟩) (m' := m) (n' := n) (by simp [stepA, hk]) (he _ _ _ _ _ _ _ _ _ _ _ h)
          · rename_i hk
            exact leaveX_sound he (by simp [stepA, hk]) h
        · exact leaveX_sound he rfl h
        · rename_i id ops draw
          split at h
          · exact W.slots (fun t v ht => lk_pruneK ht) h
          split at h
          · refine draw_chk hmix (keep := fun _ => none) (fr' := ⟨fn, nt, sl, k, ds, false, kind, round⟩) rfl fun hf => ?_
            obtain ⟨D, V, c, hK⟩ := drX_some hmix h hf
            exact ⟨_, D, V, c, W.slots (fun t v ht => lk_pruneK ht) (he _ _ _ _ _ _ _ _ _ _ _ hK)⟩
          · split at h
            · rename_i hmx
              have hds := maxD_ok hmx
              refine W.go (fun _ => none) rfl ?_
              have := regX_sound (clX_sound he) (fn := fn) (nt := nt) (k := k) (kind := kind) (Q := Q) hds (fun sl ds m n hk => ?_) ops.toList [] rfl sl ds m n h
              · simpa [List.range_eq_range'] using this
              · exact W.go (fun _ => none) rfl (W.slots (fun t v ht => lk_pruneK ht) (he _ _ _ _ _ _ _ _ _ _ _ hk))
            · exact h.elim
        · rename_i f params assign body
          split at h
          · rw [evOK_eq] at h
            split at h
            · rename_i g first cap hf
              unfold Wc at h
              split at h
              · rename_i c hen
                have hst : stepA P (fun _ => none) ⟨fn, nt, sl, .code (.rangeFunc f params assign body) :: k, ds, false, kind, none⟩ m n =
                    .call c ⟨fn, nt, sl, .inRangeFunc (n + 1) :: k, { target := .collected n, args := #[] } :: ds, false, kind, none⟩
                      ((m.set n (.deferred (some []))).set (n + 1) (.loop .ready none fn nt sl params.toList assign body n)) (n + 2) := by
                  simp only [stepA, hf, hen, Bool.false_eq_true, if_false]
                refine W.call (fun _ => none) hst h fun v m2 n2 hv => ?_
                rw [enterA_kind hen]
                obtain ⟨st, p, hg, hb, hJ⟩ := hv
                simp only [loopO] at hg hJ
                have hend : stepA P (fun _ => none) ⟨fn, nt, sl, .endRangeFunc (n + 1) :: k, { target := .collected n, args := #[] } :: ds, false, kind, none⟩ m2 n2 =
                    .go ⟨fn, nt, sl, (p.map Item.code).toList ++ k, { target := .collected n, args := #[] } :: ds, false, kind, none⟩ (m2.set (n + 1) (.loop .exhausted p fn nt sl params.toList assign body n)) n2 := by
                  cases st <;> simp_all [stepA, isBusy]
                simp only [afterA, finA]
                refine W.go (fun _ => none) hend ?_
                cases p with
                | none => exact he _ _ _ _ _ _ _ _ _ _ _ hJ
                | some c' =>
                  by_cases hc' : c' = .ret
                  · subst hc'
                    exact he _ _ _ _ _ _ _ _ _ _ _ hJ
                  · have hJ' : altX (exitsOf body) c' (fun i => ev fn nt sl (.code (.exit i) :: k) ({ target := .collected n, args := #[] } :: ds) false kind none (m2.set (n + 1) (.loop .exhausted (some c') fn nt sl params.toList assign body n)) n2 Q) := by
                      cases c' <;> first | exact (hc' rfl).elim | exact hJ
                    obtain ⟨i, rfl, hK⟩ := altX_some hJ'
                    exact he _ _ _ _ _ _ _ _ _ _ _ hK
              · exact h.elim
            · exact h.elim
          · exact h
        · exact h
      · exact W.go (fun _ => none) rfl (he _ _ _ _ _ _ _ _ _ _ _ h)
      · exact W.go (fun _ => none) rfl (he _ _ _ _ _ _ _ _ _ _ _ h)
      · exact W.go (fun _ => none) rfl (W.slots (fun t v ht => lk_pruneK ht) h)
      · split at h
        · obtain ⟨o, hg, ho, h⟩ := h
          cases o with
          | loop st p f kk s ps as bd dd =>
            cases st with
            | ready => exact W.go (fun _ => none) (fr' := ⟨fn, nt, sl, k, ds, false, kind, _⟩) (m' := m.set _ (.loop .busy p f kk s ps as bd dd)) (n' := n) (by simp [stepA, hg]) (he _ _ _ _ _ _ _ _ _ _ _ h)
            | _ => cases ho
          | _ => cases ho
        · exact h.elim
      · exact h

theorem evX_sound (hmix : P.follows .mixedOrders = true) (cfg : Cfg) : ∀ f, EvXOk P (evX P cfg f)
  | 0 => fun _ _ _ _ _ _ _ _ _ _ _ h => h
  | f + 1 => stepX_sound hmix (evX_sound hmix cfg f)

theorem ev1_sound (hmix : P.follows .mixedOrders = true) (cfg : Cfg) (f : Nat) : EvXOk P (ev1 P cfg f) := stepX_sound hmix (evX_sound hmix cfg f)

/-- A call, by the transformer. -/
theorem Wc_of (hmix : P.follows .mixedOrders = true) {cfg : Cfg} {fuel : Nat} {f : FuncId} {args : List Value} {m : Mem} {n : Nat} {Q : Value → Mem → Nat → Prop} (h : Xc P cfg fuel f args m n Q) : Wc P f args m n Q := by
  unfold Xc at h
  unfold Wc
  split at h
  · exact (evX_sound hmix cfg fuel).fr h
  · exact h
theorem W_of (hmix : P.follows .mixedOrders = true) {cfg : Cfg} {fuel : Nat} {fr : AFrame} {m : Mem} {n : Nat} {Q : Value → Mem → Nat → Prop} (h : xF (evX P cfg fuel) fr m n Q) : W P fr m n Q := (evX_sound hmix cfg fuel).fr h
theorem W_of1 (hmix : P.follows .mixedOrders = true) {cfg : Cfg} {fuel : Nat} {fr : AFrame} {m : Mem} {n : Nat} {Q : Value → Mem → Nat → Prop} (h : xF (ev1 P cfg fuel) fr m n Q) : W P fr m n Q := (ev1_sound hmix cfg fuel).fr h
end
end Go.Ab
