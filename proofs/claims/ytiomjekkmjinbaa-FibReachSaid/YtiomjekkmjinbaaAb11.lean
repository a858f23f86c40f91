/- The operations that write, make memory or call: sound, whole. -/
import Derived.Test.YtiomjekkmjinbaaAb10m
namespace Go.Ab
open Go

section
variable {P : Program} {β : Beta} {n : Dm} {m : Mem} {w : World} {sl : Slots} {ρ : Operand → Value}

/-- Slots against a real frame's temporaries. -/
def RelT (β : Beta) (n : Dm) (nt : Nat) (sl : Slots) (tmps : Array Value) : Prop :=
  tmps.size = nt ∧ ∀ t v, lk sl t = some v → tmps[t]? = some (ren β v) ∧ blw n v = true

theorem RelT.agree {γ : Beta} {k : Dm} {nt : Nat} {tmps : Array Value} (h : RelT β n nt sl tmps) (hk : n.le k) (ha : ∀ i, n.has i = true → γ i = β i) : RelT γ k nt sl tmps :=
  ⟨h.1, fun t v hv => by rw [ren_agree ha v (h.2 t v hv).2]; exact ⟨(h.2 t v hv).1, blw_mono hk _ (h.2 t v hv).2⟩⟩

theorem RelT.put {nt : Nat} {tmps : Array Value} (h : RelT β n nt sl tmps) {t : Nat} {v : Value} (ht : t < nt) (hv : blw n v = true) :
    RelT β n nt (put sl t v) (tmps.setIfInBounds t (ren β v)) := by
  refine ⟨by simp [h.1], fun s u hu => ?_⟩
  rw [lk_put] at hu
  split at hu
  · rename_i e
    simp only [Option.some.injEq] at hu; subst hu; subst e
    exact ⟨by simp [h.1, ht], hv⟩
  · rename_i e
    rw [Array.getElem?_setIfInBounds_ne e]
    exact h.2 s u hu

theorem RelT.ev {nt : Nat} {tmps : Array Value} (h : RelT β n nt sl tmps) (fr : Frame) (hf : fr.tmps = tmps) : RelO β n sl fr.eval := by
  intro x v hx
  cases x with
  | tmp t =>
    simp only [evO] at hx
    have := h.2 t v hx
    refine ⟨?_, this.2⟩
    simp [Frame.eval, hf, Array.getD_eq_getD_getElem?, this.1]
  | const c =>
    simp only [evO] at hx
    split at hx
    · rename_i hb
      simp only [Option.some.injEq] at hx; subst hx
      exact ⟨(ren_const β c hb).symm, blw_mono (Dm.none_le _) c hb⟩
    · cases hx
  | global g => simp [evO] at hx
  | func f =>
    simp only [evO, Option.some.injEq] at hx; subst hx
    exact ⟨by simp [Frame.eval, ren, renFn, renL], by simp [blw, blwFn, blwL]⟩

theorem RelT.putAll {nt : Nat} : ∀ (l : List (Tmp × Value)) {sl : Slots} {tmps : Array Value}, RelT β n nt sl tmps → (∀ p ∈ l, p.1 < nt ∧ blw n p.2 = true) →
    RelT β n nt (putAll sl l) ((l.map fun (t, v) => (t, ren β v)).foldl (fun tmps (t, a) => tmps.setIfInBounds t a) tmps)
  | [], _, _, h, _ => h
  | (t, v) :: l, sl, tmps, h, hp => by
    simp only [Ab.putAll, List.map_cons, List.foldl_cons]
    exact RelT.putAll l (h.put (hp (t, v) (List.mem_cons_self ..)).1 (hp (t, v) (List.mem_cons_self ..)).2) (fun p hm => hp p (List.mem_cons_of_mem _ hm))

def ValS (P : Program) (β : Beta) (n : Dm) (m : Mem) (w : World) (ρ : Operand → Value) (o : Oper) (v : Value) (m' : Mem) (n' : Nat) : Prop :=
  ∃ β' w' nx, (execOp ρ o).run P w = .ok nx w' ∧ (nx = .value (ren β' v) ∨ nx = .skip ∧ v = undef) ∧ Ex β n m w β' (n.up n') m' w' ∧ blw (n.up n') v = true

def EffS (P : Program) (β : Beta) (n : Dm) (m : Mem) (w : World) (ρ : Operand → Value) (o : Oper) : Eff → Prop
  | .val v m' n' => ValS P β n m w ρ o v m' n'
  | .call f args => ∀ k c, enterA P f args k = some c → (execOp ρ o).run P w = .ok (.enter f (renL β args).toArray) w ∧ blwL n args = true
  | .yield l args => ∀ c, roundA m l args = some c → n.has l = true ∧ ∃ tmps assign body, (execOp ρ o).run P w = .ok (.round (β l).blk c.fn tmps assign body) w ∧ RelT β n c.nt c.slots tmps ∧
      c.todo = [.code assign, .beginRound, .code body] ∧ c.defers = [] ∧ c.ret = false ∧ c.kind = .normal ∧ c.round = some l
  | .dfr d => (execOp ρ o).run P w = .ok (.defer (renD β d)) w ∧ blwD n d = true
  | .alts l => ∃ x ∈ l, ValS P β n m w ρ o x.1 x.2.1 x.2.2
  | .fail => True

theorem run_callFunc {f : FuncId} {args : List Value} {k : CallKind} {c : AFrame} (h : enterA P f args k = some c) (as : Array Value) : (callFunc f as).run P w = .ok (.enter f as) w := by
  unfold enterA at h
  split at h
  · rename_i fn hf
    split at h
    · rename_i body hb
      split at h
      · cases h
      · rename_i hn
        simp [callFunc, hf, hn, hb]
    · cases h
  · cases h

theorem run_storeVar {t : TypeId} {a : Addr} {v : Value} {w' : World} (hs : szOf P t = some v.cells.size) (h : (storeCells a v.cells.toList).run P w = .ok () w') : (storeVar t a v).run P w = .ok () w' := by
  simp [storeVar, run_sz hs, h]

theorem calleeA_sound (hm : RelM β n m w) {o : Oper} {fv : Value} {vs : List Value} (hf : blw n fv = true) (hv : blwL n vs = true)
    (hrun : (execOp ρ o).run P w = (do let d ← Deferred.ofValue (ren β fv) (renL β vs).toArray; invoke d.target d.args : Sem Next).run P w) : EffS P β n m w ρ o (calleeA fv vs) := by
  unfold calleeA
  split
  · rename_i f first cap
    intro k c hc
    simp only [blw, Bool.and_eq_true] at hf
    refine ⟨?_, by simp only [blwL_eq, List.all_append, Bool.and_eq_true] at hf hv ⊢; exact ⟨⟨hf.2.1, hv⟩, hf.2.2⟩⟩
    rw [hrun]
    simp only [ren, renFn, Deferred.ofValue, Sem.run_bind, Sem.run_pure, Result.andThen_ok, invoke, run_callFunc hc]
    simp [renL_eq]
  · rename_i l first cap
    intro c hc
    simp only [blw, Bool.and_eq_true, blwFn] at hf
    unfold roundA at hc
    split at hc
    · rename_i st pend fn nt slots params assign body ds hg
      split at hc
      · rename_i hcond
        simp only [Option.some.injEq] at hc; subst hc
        obtain ⟨hln, hn, hds, hsb, tmps, hh, hsz, hsl⟩ := hm.obj _ _ hg
        refine ⟨hln, _, assign, body, ?_, RelT.putAll (params.zip (first ++ vs)) (sl := slots) (tmps := tmps) ⟨hsz, fun t v hv => ⟨hsl t v hv, hsb t v hv⟩⟩ (fun p hp => ?_), rfl, rfl, rfl, rfl, rfl⟩
        · rw [hrun]
          have hgl : (Instr.getLoop (β l).blk).run P w = .ok { state := st, pending := pend, fn := fn, tmps := tmps, params := params.toArray, assign := assign, body := body, defers := (β ds).blk } w := by
            simp [Instr.getLoop, getObj, Sem.run, hh]
          simp only [ren, renFn, Deferred.ofValue, Sem.run_bind, Sem.run_pure, Result.andThen_ok, invoke, Instr.yield, hgl]
          rw [if_neg]
          · simp only [Sem.run_pure]
            congr 2
            have : (params.toArray.zip ((renL β first).toArray ++ (renL β vs).toArray)) = ((params.zip (first ++ vs)).map fun (t, v) => (t, ren β v)).toArray := by
              apply Array.ext'
              simp only [Array.toList_zip, Array.toList_append, renL_eq, ← List.map_append]
              rw [List.zip_map_right]
              refine List.map_congr_left fun p _ => ?_
              obtain ⟨t, v⟩ := p; rfl
            rw [this]
            simp
          · simp [renL_eq]
            have := hcond.1
            simp at this
            omega
        · obtain ⟨h1, h2⟩ := List.of_mem_zip hp
          have := List.all_eq_true.1 hcond.2 p.1 h1
          refine ⟨by simpa using this, ?_⟩
          rcases List.mem_append.1 h2 with h3 | h3
          · exact blwL_mem hf.2.1 h3
          · exact blwL_mem hv h3
      · cases hc
    · cases hc
  · trivial

theorem methodA_sound (hm : RelM β n m w) {t : TypeId} {v r : Value} {name : String} {f : FuncId} (hb : blw n v = true) (h : methodA P m t v name = some (f, r)) {fuel : Nat} :
    (Go.method (fuel + 1) t (ren β v) name).run P w = .ok (f, ren β r) w ∧ blw n r = true := by
  unfold methodA at h
  split at h
  · cases h
  · rename_i info hi
    split at h
    · cases h
    · rename_i me hf
      split at h
      · rename_i f' e hp hfn hu
        simp only [Option.some.injEq, Prod.mk.injEq] at h
        obtain ⟨rfl, rfl⟩ := h
        exact ⟨by simp [Go.method, run_info hi, hf, hp, follow, hfn, receiverAt, run_und hu, Place.get], hb⟩
      · rename_i f' e hp hfn hu
        simp only [Option.map_eq_some_iff, Prod.mk.injEq] at h
        obtain ⟨x, hx, rfl, rfl⟩ := h
        have hl := loadA_sound hm hx
        refine ⟨?_, hl.2⟩
        have hpe : me.path.isEmpty = true := by
          have : me.path = #[] := by apply Array.ext'; simpa using hp
          simp [this]
        obtain ⟨i, off, rfl⟩ : ∃ i off, v = .pointer (some ⟨i, off, none⟩) := by
          unfold loadA at hx
          split at hx
          · exact ⟨_, _, rfl⟩
          · cases hx
        have hlv : (loadVar e ⟨(β i).blk, off + (β i).sh, none⟩).run P w = .ok (ren β x) w := by
          have := hl.1
          simpa [Instr.loadAt, Instr.sureAddr, ren, renPtr] using this
        have hchk : ∀ (a : Addr) (nm : String) (xt : TypeId), (Builtin.ssaWrapNilChk_ #[xt] xt #[.pointer (some a), strVal "", strVal nm]).run P w = .ok (.pointer (some a)) w := fun a nm xt => rfl
        simp only [Go.method, Sem.run_bind, run_info hi, Result.andThen_ok, hf, hp, follow, Sem.run_pure, hfn, receiverAt, run_und hu, Place.get, hpe, if_true, ren, renPtr, hchk, asAddr, hlv]
      · rename_i f' d hne hp hfn hu
        simp only [Option.some.injEq, Prod.mk.injEq] at h
        obtain ⟨rfl, rfl⟩ := h
        refine ⟨?_, hb⟩
        simp only [Go.method, Sem.run_bind, run_info hi, Result.andThen_ok, hf, hp, follow, Sem.run_pure, hfn, receiverAt, run_und hu]
        cases d <;> first | (exact (hne _ rfl).elim) | simp [Place.get]
      · cases h

theorem evE_sound (hm : RelM β n m w) (hr : RelO β n sl ρ) (o : Oper) : EffS P β n m w ρ o (evE P m n.n sl o) := by
  obtain ⟨dst, op, type, pos, after, guard⟩ := o
  have hA : ∀ op, (match evA P sl { dst := dst, op := op, type := type, pos := pos, after := after, guard := guard } n.n with
      | some (ob, v) => EffS P β n m w ρ { dst := dst, op := op, type := type, pos := pos, after := after, guard := guard } (.val v (m.set n.n ob) (n.n + 1))
      | none => True) := by
    intro op
    split
    · rename_i ob v h
      obtain ⟨β', w', h1, h2, h3, _⟩ := evA_sound (P := P) hm hr (s := n.n) (n' := n.up (n.n + 1)) (has_n n) (Dm.le_up (by omega)) (hol_up hm.hol (by omega)) (has_up hm.hol) h
      exact ⟨β', w', _, h1, .inl rfl, h2, h3⟩
    · trivial
  cases op
  case alloc elem => simp only [evE]; have := hA (.alloc elem); split <;> simp_all [EffS]
  case box elem x => simp only [evE]; have := hA (.box elem x); split <;> simp_all [EffS]
  case buildSlice t l ps => simp only [evE]; have := hA (.buildSlice t l ps); split <;> simp_all [EffS]
  case makeSlice t l c => simp only [evE]; have := hA (.makeSlice t l c); split <;> simp_all [EffS]
  case makeMap t r => simp only [evE]; have := hA (.makeMap t r); split <;> simp_all [EffS]
  case range t x =>
    simp only [evE]
    split
    · rename_i kt el hu hx
      have := hA (.range t x)
      simpa [evA, hu, hx] using this
    · rename_i kt el r hu hx
      have h1 := hr x _ hx
      split
      · rename_i es clk hg
        split
        · rename_i hall
          obtain ⟨β', w', hw1, hw2⟩ := range_sound (P := P) hm hu hg hall
          refine ⟨β', w', _, ?_, .inl rfl, hw2, ?_⟩
          · simp only [execOp, h1.1, ren, Sem.run_bind, hw1, Result.andThen_ok, Sem.run_pure]
          · simp [blw, has_up hm.hol]
        · trivial
      · trivial
    · trivial
  case next it isS =>
    cases isS with
    | true => simp [evE, EffS]
    | false =>
      simp only [evE]
      split
      · rename_i r hx
        have h1 := hr it _ hx
        split
        · rename_i since left cur hi
          obtain ⟨_, hi1, hi0, seen, stepped, hi2, _⟩ := hm.obj r _ hi
          refine ⟨β, w, _, ?_, .inl rfl, Ex.refl hm, rfl⟩
          have hgi : (getObj (β r).blk).run P w = .ok (.mapIter none since seen stepped) w := by simp [getObj, Sem.run, hi2]
          simp [execOp, h1.1, ren, renPtr, hi0, Instr.next, hgi, renL]
        · rename_i mp since left cur hi
          obtain ⟨_, hi1, hi0, _⟩ := hm.obj r _ hi
          split
          · rename_i es clk hg
            split
            · rename_i hc
              have hn := next_sound (P := P) hm type hi hg hc.1 hc.2
              have hex : ∀ x w', (Instr.next (.pointer (some ⟨(β r).blk, 0, none⟩)) false type).run P w = .ok x w' →
                  (execOp ρ { dst := dst, op := .next it false, type := type, pos := pos, after := after, guard := guard }).run P w = .ok (.value x) w' := fun x w' hrun => by
                simp only [execOp, h1.1, ren, renPtr, hi0, Nat.zero_add, Sem.run_bind, hrun, Result.andThen_ok, Sem.run_pure]
              split
              · rename_i hnil
                rcases hn with ⟨_, hrun⟩ | ⟨e, he, _⟩
                · exact ⟨β, w, _, hex _ _ hrun, .inl (by simp [ren, renL]), Ex.refl hm, rfl⟩
                · have hnil : candOf es left = [] := hnil
                  rw [hnil] at he; cases he
              · rename_i hnn
                rcases hn with ⟨hnil, _⟩ | ⟨e, he, w', hrun, h2, h3, h4⟩
                · exact absurd hnil hnn
                · refine ⟨(.tuple #[.bool true, e.1, e.2], m.set r (.iter (some mp) since (leftBut left e.1) (some e.1)), n.n), List.mem_map.2 ⟨e, he, rfl⟩, β, w', _, hex _ _ hrun, .inl (by simp [ren, renL]), h2, ?_⟩
                  simp [blw, blwL, Dm.up_self, h3, h4]
            · trivial
          · trivial
        · trivial
      · trivial
  case mapUpdate t mp k x =>
    simp only [evE]
    split
    · rename_i kt el r kk kn v hu hmp hk hx
      have h1 := hr mp _ hmp
      have h2 := hr k _ hk
      have h3 := hr x _ hx
      split
      · rename_i k0 es clk hkt hg
        split
        · rename_i hall
          obtain ⟨w', hw1, hw2⟩ := mapUpdate_sound (P := P) (kn := kn) hm hu hkt hg hall h3.2
          have hrun : (execOp ρ { dst := dst, op := .mapUpdate t mp k x, type := type, pos := pos, after := after, guard := guard }).run P w = .ok .skip w' := by
            simp only [execOp, h1.1, h2.1, h3.1, ren, Sem.run_bind, hw1, Result.andThen_ok, Sem.run_pure]
          split
          · rename_i hany
            rw [if_pos hany] at hw2
            exact ⟨β, w', .skip, hrun, .inr ⟨rfl, rfl⟩, hw2, rfl⟩
          · rename_i hany
            rw [if_neg hany] at hw2
            exact ⟨β, w', .skip, hrun, .inr ⟨rfl, rfl⟩, hw2, rfl⟩
        · trivial
      · trivial
    · trivial
  case insert t mp k x =>
    simp only [evE]
    split
    · rename_i kt el r kk kn v hu hmp hk hx
      have h1 := hr mp _ hmp
      have h2 := hr k _ hk
      have h3 := hr x _ hx
      split
      · rename_i k0 es clk hkt hg
        split
        · rename_i hall
          obtain ⟨w', hw1, hw2⟩ := mapUpdate_sound (P := P) (kn := kn) hm hu hkt hg hall h3.2
          have hrun : (execOp ρ { dst := dst, op := .insert t mp k x, type := type, pos := pos, after := after, guard := guard }).run P w = .ok .skip w' := by
            simp only [execOp, h1.1, h2.1, h3.1, ren, Sem.run_bind, hw1, Result.andThen_ok, Sem.run_pure]
          split
          · rename_i hany
            rw [if_pos hany] at hw2
            exact ⟨β, w', .skip, hrun, .inr ⟨rfl, rfl⟩, hw2, rfl⟩
          · rename_i hany
            rw [if_neg hany] at hw2
            exact ⟨β, w', .skip, hrun, .inr ⟨rfl, rfl⟩, hw2, rfl⟩
        · trivial
      · trivial
    · trivial
  case store t a x =>
    simp only [evE]
    split
    · rename_i i off v sz ha hx hs
      have h1 := hr a _ ha
      have h2 := hr x _ hx
      split
      · rename_i hsz
        split
        · rename_i m' hst
          obtain ⟨w', hw1, hw2, hw3⟩ := storeCs_sound (P := P) hm (blw_cells h2.2) hst
          refine ⟨β, w', .skip, ?_, .inr ⟨rfl, rfl⟩, hw2, rfl⟩
          have : (storeVar t ⟨(β i).blk, off + (β i).sh, none⟩ (ren β v)).run P w = .ok () w' :=
            run_storeVar (by rw [hs, ren_cells_size, hsz]) (by rw [ren_cells_toList, ← renL_eq]; exact hw1)
          simp only [execOp, Instr.storeAt, Sem.run_bind, h1.1, h2.1, ren, renPtr, Instr.sureAddr, Sem.run_pure, Result.andThen_ok, this]
        · trivial
      · trivial
    · trivial
  case defer c =>
    obtain ⟨callee, args, argTypes⟩ := c
    cases callee with
    | value f =>
      simp only [evE]
      split
      · rename_i g first cap vs hf hvs
        have h1 := hr f _ hf
        have ⟨h2, h3⟩ := evs_toList hr hvs
        cases cap
        simp only [blw, Bool.and_eq_true] at h1
        refine ⟨?_, ?_⟩
        · simp only [execOp, resolve, h1.1, h2, ren, Deferred.ofValue, Sem.run_bind, Sem.run_pure, Result.andThen_ok]
          simp [renD, renT, renL_eq]
        · simp only [blwD, blwT, Bool.and_eq_true, blwL_eq, List.all_append] at h1 h3 ⊢
          exact ⟨⟨h1.2.1, h1.2.2.2⟩, h1.2.2.1, h3⟩
      · trivial
    | _ => simp [evE, EffS]
  case call c =>
    obtain ⟨callee, args, argTypes⟩ := c
    cases callee with
    | value f =>
      simp only [evE]
      split
      · rename_i fv vs hf hvs
        have h1 := hr f _ hf
        have ⟨h2, h3⟩ := evs_toList hr hvs
        exact calleeA_sound hm h1.2 h3 (by simp only [execOp, resolve, h1.1, h2])
      · trivial
    | invoke recv name =>
      simp only [evE]
      split
      · rename_i t v vs hx hvs
        have h1 := hr recv _ hx
        have ⟨h2, h3⟩ := evs_toList hr hvs
        have hb : blw n v = true := by simpa [blw] using h1.2
        split
        · rename_i f r hme
          intro k c hc
          obtain ⟨fuel, hfu⟩ : ∃ fuel, P.types.size + Made.depth = fuel + 1 := ⟨P.types.size + Made.depth - 1, by have : Made.depth = 100 := rfl; omega⟩
          have hms := methodA_sound (P := P) hm hb hme (fuel := fuel)
          refine ⟨?_, by simp [blwL, hms.2, h3]⟩
          simp only [execOp, resolve, h1.1, h2, ren, Sem.run_bind, Sem.run_pure, Result.andThen_ok, invoke, callMethod]
          simp [hfu, hms.1, run_callFunc hc, renL_eq]
          exact List.take_of_length_le (by simp)
        · trivial
      · trivial
    | builtin b =>
      cases b
      case append =>
        simp only [evE]
        split
        · rename_i t0 t1 s x ht hx
          have ⟨h1, h2⟩ := evs_toList hr hx
          have hat : argTypes = #[t0, t1] := by apply Array.ext'; simpa using ht
          simp only [blwL, Bool.and_eq_true] at h2
          generalize he : appendA P m n.n t0 t1 s x = e
          cases e with
          | val v m' n' =>
            obtain ⟨β', w', h3, h4, h5⟩ := appendA_sound (P := P) hm (argTypes := argTypes) (type := type) (by simp [hat]) (by simp [hat]) h2.1 he
            refine ⟨β', w', _, ?_, .inl rfl, h4, h5⟩
            simp only [execOp, resolve, Sem.run_bind, Sem.run_pure, Result.andThen_ok, invoke, builtin, h1, renL, h3]
          | fail => trivial
          | _ =>
            exfalso
            unfold appendA at he
            simp only at he
            (repeat' split at he) <;> cases he
        · trivial
      case copy =>
        simp only [evE]
        split
        · rename_i t0 t1 a len cap b k kcap ht hx
          have ⟨h1, h2⟩ := evs_toList hr hx
          have hat : argTypes[0]? = some t0 := by
            have : argTypes = #[t0, t1] := by apply Array.ext'; simpa using ht
            simp [this]
          obtain ⟨ad, cb, e⟩ : ∃ ad c, ren β (.slice b k kcap) = .slice ad k c := by
            cases b with
            | none => exact ⟨_, _, rfl⟩
            | some b => obtain ⟨i, o, s⟩ := b; simp only [ren]; exact renSlice_form ..
          split
          · rename_i elem hu
            split
            · rename_i sz hs
              -- what is read
              split
              · rename_i cs hcs
                have hfc := (sliceCells_sound (P := P) hm hcs).1
                rw [e] at hfc
                refine ⟨β, w, .value (.int .i64 (min k len : Nat)), ?_, .inl rfl, Ex.refl hm, rfl⟩
                have hmin : Nat.min k len = min k len := rfl
                simp only [execOp, resolve, Sem.run_bind, Sem.run_pure, Result.andThen_ok, invoke, builtin, h1, renL, Builtin.copy_, hat, e]
                simp [ren, run_und hu, Builtin.lenOf, run_sz hs, hmin, hfc, goInt]
              · rename_i cs i o sp hcs
                have hsc := sliceCells_sound (P := P) hm hcs
                have hfc := hsc.1
                rw [e] at hfc
                have hmin : Nat.min k len = min k len := rfl
                have hfin : ∀ w' ad2 c2, ren β (.slice (some ⟨i, o, sp⟩) len cap) = .slice ad2 len c2 → (∀ a', ad2 = some a' → (storeCells a' (renL β cs)).run P w = .ok () w') → (ad2 = none → w' = w) →
                    (execOp ρ { dst := dst, op := .call { callee := .builtin .copy, args := args, argTypes := argTypes }, type := type, pos := pos, after := after, guard := guard }).run P w =
                      .ok (.value (.int .i64 (min k len : Nat))) w' := by
                  intro w' ad2 c2 e2 hst hst0
                  simp only [execOp, resolve, Sem.run_bind, Sem.run_pure, Result.andThen_ok, invoke, builtin, h1, renL, Builtin.copy_, hat, e, e2]
                  cases ad2 with
                  | none => simp [run_und hu, Builtin.lenOf, run_sz hs, hmin, hfc, goInt, hst0 rfl]
                  | some a' => simp [run_und hu, Builtin.lenOf, run_sz hs, hmin, hfc, goInt, hst a' rfl]
                split
                · rename_i h0
                  have hcs0 : cs = [] := List.eq_nil_of_length_eq_zero (by rw [hsc.2.2, h0]; simp)
                  subst hcs0
                  obtain ⟨ad2, c2, e2⟩ : ∃ ad c, ren β (.slice (some ⟨i, o, sp⟩) len cap) = .slice ad len c := by simp only [ren]; exact renSlice_form ..
                  have := hfin w ad2 c2 e2 (fun a' _ => by simp [renL, storeCells]) (fun _ => rfl)
                  rw [h0] at this
                  exact ⟨β, w, _, this, .inl rfl, Ex.refl hm, rfl⟩
                · split
                  · rename_i hcap
                    split
                    · rename_i m' hst
                      obtain ⟨w', hw1, hw2, hw3⟩ := storeCs_sound (P := P) hm hsc.2.1 hst
                      refine ⟨β, w', _, ?_, .inl rfl, hw2, rfl⟩
                      cases sp with
                      | none => exact hfin w' (some ⟨(β i).blk, o + (β i).sh, none⟩) cap (by simp only [ren, renSlice, hw3, Bool.false_eq_true, if_false]) (fun a' ea => by simp only [Option.some.injEq] at ea; subst ea; exact hw1) (by simp)
                      | some t => exact hfin w' (some ⟨(β i).blk, t + (β i).sh, none⟩) (cap + (β i).ex) (by simp only [ren, renSlice, hw3, Bool.false_eq_true, if_false, if_neg (show ¬ cap + (β i).ex = 0 by omega)])
                                    (fun a' ea => by simp only [Option.some.injEq] at ea; subst ea; exact hw1) (by simp)
                    · trivial
                  · trivial
              · trivial
            · trivial
          · trivial
        · trivial
      case clear =>
        simp only [evE]
        split
        · rename_i t0 a len cap ht hx
          have ⟨h1, h2⟩ := evs_toList hr hx
          have hat : argTypes[0]? = some t0 := by
            have : argTypes = #[t0] := by apply Array.ext'; simpa using ht
            simp [this]
          split
          · rename_i elem hu
            split
            · rename_i sz z hs hz
              refine ⟨β, w, .value (.tuple #[]), ?_, .inl (by simp [ren, renL]), Ex.refl hm, rfl⟩
              simp only [execOp, resolve, Sem.run_bind, Sem.run_pure, Result.andThen_ok, invoke, builtin, h1, renL, Builtin.clear_, hat]
              simp [ren, run_und hu]
            · rename_i sz z i o sp hs hz
              have ⟨hz1, hz2, hz3⟩ := zero_ren (P := P) (β := β) (n := n) (w := w) hz
              split
              · rename_i h0
                subst h0
                refine ⟨β, w, .value (.tuple #[]), ?_, .inl (by simp [ren, renL]), Ex.refl hm, rfl⟩
                obtain ⟨ad2, c2, e2⟩ : ∃ ad c, ren β (.slice (some ⟨i, o, sp⟩) 0 cap) = .slice ad 0 c := by simp only [ren]; exact renSlice_form ..
                simp only [execOp, resolve, Sem.run_bind, Sem.run_pure, Result.andThen_ok, invoke, builtin, h1, renL, Builtin.clear_, hat, e2]
                cases ad2 <;> simp [run_und hu]
              · rename_i h0
                split
                · rename_i hc
                  split
                  · rename_i m' hst
                    have hbz : blwL n (List.replicate len z.cells.toList).flatten = true := by
                      rw [blwL_eq, List.all_eq_true]
                      intro x hx
                      simp only [List.mem_flatten, List.mem_replicate] at hx
                      obtain ⟨l, ⟨_, rfl⟩, hx⟩ := hx
                      exact blwL_mem (blw_cells hz3) hx
                    obtain ⟨w', hw1, hw2, hw3⟩ := storeCs_sound (P := P) hm hbz hst
                    have hzr : renL β z.cells.toList = z.cells.toList := by
                      have := congrArg Array.toList (ren_cells β z)
                      rw [hz2] at this
                      rw [renL_eq]; simpa using this.symm
                    have hzs : z.cells.size = sz := by simpa using hc.1
                    rw [flat_rep, hzr] at hw1
                    have hrow := zeroCells_eq z.cells len (fun h => Nat.pos_of_ne_zero (by rintro e; simp [e] at h))
                    refine ⟨β, w', .value (.tuple #[]), ?_, .inl (by simp [ren, renL]), hw2, rfl⟩
                    obtain ⟨l', hl'⟩ : ∃ l', len = l' + 1 := ⟨len - 1, by omega⟩
                    have hren : ∃ c2, ren β (.slice (some ⟨i, o, sp⟩) len cap) = .slice (some ⟨(β i).blk, offOf o sp + (β i).sh, none⟩) len c2 := by
                      cases sp with
                      | none => exact ⟨cap, by simp only [ren, renSlice, hw3, Bool.false_eq_true, if_false, offOf]⟩
                      | some t => exact ⟨cap + (β i).ex, by simp only [ren, renSlice, hw3, Bool.false_eq_true, if_false, if_neg (show ¬ cap + (β i).ex = 0 by omega), offOf]⟩
                    obtain ⟨c2, e2⟩ := hren
                    simp only [execOp, resolve, Sem.run_bind, Sem.run_pure, Result.andThen_ok, invoke, builtin, h1, renL, Builtin.clear_, hat, e2]
                    subst hl'
                    simp [run_und hu, hz1, hrow, hw1]
                  · trivial
                · trivial
            · trivial
          · trivial
        · trivial
      all_goals simp [evE, EffS]
  all_goals simp [evE, EffS]
end
end Go.Ab
