/- The operations that at most read: sound. -/
import Derived.Test.YtiomjekkmjinbaaAb5
namespace Go.Ab
open Go

section
variable {P : Program} {β : Beta} {n : Dm} {m : Mem} {w : World} {sl : Slots} {ρ : Operand → Value}

theorem renSlice_ne_nilA (l : Loc) (o : Nat) (s : Option Nat) (a b : Nat) (h : (l.nil && l.odd.isNone) = false) : ∃ ad c, renSlice l o s a b = .slice (some ad) a c := by
  unfold renSlice
  cases hn : l.nil with
  | true =>
    rw [hn] at h
    cases ho : l.odd with
    | none => rw [ho] at h; cases h
    | some ad => exact ⟨_, b, by simp; rfl⟩
  | false =>
    simp only [Bool.false_eq_true, if_false]
    cases s <;> exact ⟨_, _, rfl⟩

theorem eqA_sound (hm : RelM β n m w) : ∀ (d : Nat) (t : TypeId) (x y : Value) (b : Bool), eqA P m d t x y = some b → blw n x = true → blw n y = true →
    ∀ d', d ≤ d' → (Op.equalIn d' t (ren β x) (ren β y)).run P w = .ok b w := by
  intro d
  induction d with
  | zero => intro t x y b h; simp [eqA] at h
  | succ d ih =>
    intro t x y b h hbx hby d' hd
    obtain ⟨d', rfl⟩ : ∃ e, d' = e + 1 := ⟨d' - 1, by omega⟩
    simp only [eqA] at h
    split at h
    · rename_i a b' hu; simp only [Option.some.injEq] at h; subst h; simp [ren, Op.equalIn, run_und hu]
    · rename_i k0 k a k' b' hu
      split at h
      · rename_i hk; simp only [Option.some.injEq] at h; subst h; simp [ren, Op.equalIn, run_und hu, hk]
      · cases h
    · rename_i a b' hu; simp only [Option.some.injEq] at h; subst h; simp [ren, Op.equalIn, run_und hu]
    · rename_i e b' hu; simp only [Option.some.injEq] at h; subst h
      cases b' <;> simp [ren, renPtr, Op.equalIn, run_und hu]
    · rename_i e a hu; simp only [Option.some.injEq] at h; subst h; simp [ren, renPtr, Op.equalIn, run_und hu]
    · rename_i ms t' v hu; simp only [Option.some.injEq] at h; subst h; simp [ren, Op.equalIn, run_und hu]
    · rename_i ms t' v hu; simp only [Option.some.injEq] at h; subst h; simp [ren, Op.equalIn, run_und hu]
    · rename_i e l c l' c' hu; simp only [Option.some.injEq] at h; subst h; simp [ren, Op.equalIn, run_und hu]
    · rename_i e i o s l c l' c' hu
      split at h
      · rename_i el esz cs hg
        simp only [Option.some.injEq] at h; subst h
        have ⟨_, ho⟩ := hm.obj i _ hg
        obtain ⟨ad, c2, e2⟩ := renSlice_ne_nilA (β i) o s l c (by rw [ho.1]; rfl)
        simp [ren, e2, Op.equalIn, run_und hu]
      · rename_i nl el esz cs hg
        simp only [Option.some.injEq] at h; subst h
        have ⟨_, ho⟩ := hm.obj i _ hg
        cases nl with
        | false =>
          obtain ⟨ad, c2, e2⟩ := renSlice_ne_nilA (β i) o s l c ho.1
          simp [ren, e2, Op.equalIn, run_und hu]
        | true =>
          have h1 := ho.1
          simp only [Bool.and_eq_true, Option.isNone_iff_eq_none] at h1
          have e2 : renSlice (β i) o s l c = .slice none l c := by unfold renSlice; simp [h1.1, h1.2]
          simp [ren, e2, Op.equalIn, run_und hu]
      · cases h
    · rename_i k e b' hu; simp only [Option.some.injEq] at h; subst h
      cases b' <;> simp [ren, Op.equalIn, run_und hu]
    · rename_i k e a hu; simp only [Option.some.injEq] at h; subst h; simp [ren, Op.equalIn, run_und hu]
    · rename_i hu; simp only [Option.some.injEq] at h; subst h; simp [ren, Op.equalIn, run_und hu]
    · rename_i f a c hu; simp only [Option.some.injEq] at h; subst h
      cases a; cases c; simp [ren, Op.equalIn, run_und hu]
    · rename_i f a c hu; simp only [Option.some.injEq] at h; subst h
      cases a; cases c; simp [ren, Op.equalIn, run_und hu]
    · rename_i fields xs ys hu
      split at h
      · cases h
      · rename_i hst
        have hst : P.stoodInHeld t = false := by simpa using hst
        simp only [blw] at hbx hby
        have hf : P.underlying t = some (.struct (P.fieldsOf t)) := by simp [Program.fieldsOf, hu]
        simp only [ren]
        rw [run_equalIn_struct w d' t _ _ hf hst]
        have e : P.fieldsOf t = fields := by simp [Program.fieldsOf, hu]
        rw [e]
        have hd' : d ≤ d' := by omega
        clear hf e hu
        generalize fields.toList = fs at h
        induction fs with
        | nil => simp at h; subst h; simp [Op.eqFields]
        | cons f fs ihf =>
          simp only [List.foldr_cons] at h
          simp only [Op.eqFields]
          split at h
          · rename_i hn
            rw [if_pos hn]
            split at h
            · rename_i a b' ha hb
              have ⟨pa, ba⟩ := partA_sound (P := P) (β := β) (w := w) hbx ha
              have ⟨pb, bb⟩ := partA_sound (P := P) (β := β) (w := w) hby hb
              split at h
              · rename_i he
                have := ih _ _ _ _ he ba bb d' hd'
                simp only [Sem.run_bind, pa, pb, Result.andThen_ok, this, Bool.not_true, Bool.false_eq_true, if_false]
                exact ihf h
              · rename_i he
                have := ih _ _ _ _ he ba bb d' hd'
                simp only [Option.some.injEq] at h; subst h
                simp only [Sem.run_bind, pa, pb, Result.andThen_ok, this, Bool.not_false, if_true, Sem.run_pure]
              · cases h
            · cases h
          · rename_i hn
            rw [if_neg hn]
            exact ihf h
    · cases h

theorem intA_sound {op : BinOp} {k : IntKind} {a b : Int} {v : Value} {t : TypeId} (h : intA op k a b = some v) :
    (Go.binOp op t (.int k a) (.int k b)).run P w = .ok v w ∧ ((∃ k c, v = .int k c) ∨ ∃ c, v = .bool c) := by
  cases op <;> simp only [intA] at h <;> (try (cases h; done)) <;> (try (split at h <;> (try (cases h; done)))) <;>
    simp only [Option.some.injEq] at h <;> subst h <;>
    first
      | exact ⟨by simp_all [Go.binOp, Op.intArith, Op.intDiv, Op.intBits, Op.intCmp], .inl ⟨_, _, rfl⟩⟩
      | exact ⟨by simp_all [Go.binOp, Op.intCmp], .inr ⟨_, rfl⟩⟩

theorem shiftA_sound {op : BinOp} {k yk : IntKind} {a b : Int} {v : Value} {t : TypeId} (hop : op = .shl ∨ op = .shr) (h : shiftA op k a b = some v) :
    (Go.binOp op t (.int k a) (.int yk b)).run P w = .ok v w ∧ ∃ k c, v = .int k c := by
  rcases hop with rfl | rfl <;> simp only [shiftA] at h <;> split at h <;> (try (cases h; done)) <;> rename_i hb <;> simp only [Option.some.injEq] at h <;> subst h <;>
    exact ⟨by simp only [Go.binOp, Op.shift, if_neg hb, Sem.run_pure], _, _, rfl⟩

theorem eqGuard_skip {op : BinOp} {t : TypeId} {a b : Operand} {x y : Value} (h1 : ¬ (x = .nilIface ∧ y = .nilIface)) (h2 : ∀ c d, x = .agg c → y = .agg d → P.eqGuardType P.depth t = false) :
    (Go.eqGuard op t a b x y).run P w = .ok () w := by
  unfold Go.eqGuard
  cases op <;> simp only [Bool.not_true, Bool.not_false, Bool.false_eq_true, if_false, if_true, Sem.run_pure] <;>
  · split
    · exact absurd ⟨rfl, rfl⟩ h1
    · rename_i c d
      simp [h2 c d rfl rfl]
    · rfl

theorem binA_sound (hm : RelM β n m w) {op : BinOp} {t : TypeId} {x y : Value} {a b : Operand} {v : Value} (h : binA P m op t x y = some v)
    (hbx : blw n x = true) (hby : blw n y = true) :
    (do Go.eqGuard op t a b (ren β x) (ren β y); Go.binOp op t (ren β x) (ren β y)).run P w = .ok (ren β v) w ∧ blw n v = true := by
  have eqs : ∀ f : Bool → Bool, (op = .eql ∧ f = id ∨ op = .neq ∧ f = not) → (eqA P m 100 t x y).map (fun b => Value.bool (f b)) = some v →
      ¬ (ren β x = .nilIface ∧ ren β y = .nilIface) → (∀ c d, ren β x = .agg c → ren β y = .agg d → P.eqGuardType P.depth t = false) →
      (∀ k c, ren β x ≠ .int k c) → (∀ k c, ren β x ≠ .float k c) → (∀ k c d, ren β x ≠ .complex k c d) → (∀ s, ren β x ≠ .string s) →
      (do Go.eqGuard op t a b (ren β x) (ren β y); Go.binOp op t (ren β x) (ren β y)).run P w = .ok (ren β v) w ∧ blw n v = true := by
    intro f hf he h1 h2 n1 n2 n3 n4
    simp only [Option.map_eq_some_iff] at he
    obtain ⟨r, hr, rfl⟩ := he
    have := eqA_sound hm 100 t x y r hr hbx hby Op.maxDepth (by decide)
    have hq : (Op.equal t (ren β x) (ren β y)).run P w = .ok r w := this
    refine ⟨?_, rfl⟩
    simp only [Sem.run_bind, eqGuard_skip h1 h2, Result.andThen_ok]
    generalize hX : ren β x = X at *
    generalize hY : ren β y = Y at *
    rcases hf with ⟨rfl, rfl⟩ | ⟨rfl, rfl⟩
    · have : Go.binOp .eql t X Y = (do pure (.bool (← Op.equal t X Y))) := by
        cases X <;> simp_all [Go.binOp]
      rw [this]; simp [hq, ren]
    · have : Go.binOp .neq t X Y = (do pure (.bool (!(← Op.equal t X Y)))) := by
        cases X <;> simp_all [Go.binOp]
      rw [this]; simp [hq, ren]
  have eqs' : ∀ {g : Option Value}, (match op with | .eql => (eqA P m 100 t x y).map .bool | .neq => (eqA P m 100 t x y).map fun b => .bool !b | _ => none) = some v →
      ¬ (ren β x = .nilIface ∧ ren β y = .nilIface) → (∀ c d, ren β x = .agg c → ren β y = .agg d → P.eqGuardType P.depth t = false) →
      (∀ k c, ren β x ≠ .int k c) → (∀ k c, ren β x ≠ .float k c) → (∀ k c d, ren β x ≠ .complex k c d) → (∀ s, ren β x ≠ .string s) →
      (do Go.eqGuard op t a b (ren β x) (ren β y); Go.binOp op t (ren β x) (ren β y)).run P w = .ok (ren β v) w ∧ blw n v = true := by
    intro _ he
    split at he
    · exact eqs id (.inl ⟨rfl, rfl⟩) he
    · exact eqs not (.inr ⟨rfl, rfl⟩) he
    · cases he
  unfold binA at h
  split at h
  · rename_i k a' k' b'
    have hg : (Go.eqGuard op t a b (ren β (.int k a')) (ren β (.int k' b'))).run P w = .ok () w := eqGuard_skip (by simp [ren]) (by simp [ren])
    simp only [Sem.run_bind, hg, Result.andThen_ok]
    simp only [ren]
    split at h
    · obtain ⟨h1, k2, c, rfl⟩ := shiftA_sound (P := P) (w := w) (t := t) (yk := k') (.inl rfl) h; exact ⟨h1, rfl⟩
    · obtain ⟨h1, k2, c, rfl⟩ := shiftA_sound (P := P) (w := w) (t := t) (yk := k') (.inr rfl) h; exact ⟨h1, rfl⟩
    · split at h
      · rename_i hk
        subst hk
        obtain ⟨h1, h2⟩ := intA_sound (P := P) (w := w) (t := t) h
        rcases h2 with ⟨k2, c, rfl⟩ | ⟨c, rfl⟩ <;> exact ⟨h1, rfl⟩
      · cases h
  · rename_i c d
    split at h
    · cases h
    · rename_i hg
      cases c; cases d
      exact eqs' (g := none) h (by simp [ren]) (by simp [ren]; simpa using hg) (by simp [ren]) (by simp [ren]) (by simp [ren]) (by simp [ren])
  · rename_i a' b'
    have hg : (Go.eqGuard op t a b (ren β (.string a')) (ren β (.string b'))).run P w = .ok () w := eqGuard_skip (by simp [ren]) (by simp [ren])
    simp only [Sem.run_bind, hg, Result.andThen_ok]
    simp only [ren]
    split at h
    · simp only [Option.some.injEq] at h; subst h
      refine ⟨?_, rfl⟩
      show _ = Result.ok (Value.bool (a' == b')) w
      rw [beq_toListBytes]; rfl
    · simp only [Option.some.injEq] at h; subst h
      refine ⟨?_, rfl⟩
      show _ = Result.ok (Value.bool (!(a' == b'))) w
      rw [beq_toListBytes]; rfl
    · cases h
  · exact eqs' (g := none) h (by simp [ren]) (by simp [ren]) (by simp [ren]) (by simp [ren]) (by simp [ren]) (by simp [ren])
  · exact eqs' (g := none) h (by simp [ren]) (by simp [ren]) (by simp [ren]) (by simp [ren]) (by simp [ren]) (by simp [ren])
  · exact eqs' (g := none) h (by simp [ren]) (by simp [ren]) (by simp [ren]) (by simp [ren]) (by simp [ren]) (by simp [ren])
  · exact eqs' (g := none) h (by simp [ren]) (by simp [ren]) (by simp [ren]) (by simp [ren]) (by simp [ren]) (by simp [ren])
  · rename_i a1 l1 c1 a2 l2 c2
    have nb : ∀ a l c, (∀ cs, ren β (.slice a l c) ≠ .agg cs) ∧ ren β (.slice a l c) ≠ .nilIface ∧ (∀ k z, ren β (.slice a l c) ≠ .int k z) ∧ (∀ k z, ren β (.slice a l c) ≠ .float k z) ∧
        (∀ k z u, ren β (.slice a l c) ≠ .complex k z u) ∧ (∀ z, ren β (.slice a l c) ≠ .string z) := by
      intro a l c
      cases a with
      | none => simp [ren]
      | some a => obtain ⟨i, o, s⟩ := a; simp only [ren]; unfold renSlice; (repeat' split) <;> simp
    have := nb a1 l1 c1
    exact eqs' (g := none) h (by simp [this]) (by simp [this]) this.2.2.1 this.2.2.2.1 this.2.2.2.2.1 this.2.2.2.2.2
  · rename_i a1 a2
    cases a1 <;> exact eqs' (g := none) h (by simp [ren]) (by simp [ren]) (by simp [ren]) (by simp [ren]) (by simp [ren]) (by simp [ren])
  · exact eqs' (g := none) h (by simp [ren]) (by simp [ren]) (by simp [ren]) (by simp [ren]) (by simp [ren]) (by simp [ren])
  · exact eqs' (g := none) h (by simp [ren]) (by simp [ren]) (by simp [ren]) (by simp [ren]) (by simp [ren]) (by simp [ren])
  · rename_i f a1 b1
    cases a1; cases b1
    exact eqs' (g := none) h (by simp [ren]) (by simp [ren]) (by simp [ren]) (by simp [ren]) (by simp [ren]) (by simp [ren])
  · cases h

theorem unA_sound {op : UnOp} {x v : Value} (h : unA op x = some v) : (Op.unary op (ren β x)).run P w = .ok (ren β v) w ∧ blw n v = true := by
  unfold unA at h
  split at h
  · simp only [Option.some.injEq] at h; subst h; exact ⟨by simp [ren, Op.unary, Op.intArith], rfl⟩
  · rename_i k c
    simp only [intA, Option.some.injEq] at h; subst h; exact ⟨by simp [ren, Op.unary, Op.intBits], rfl⟩
  · simp only [Option.some.injEq] at h; subst h; exact ⟨by simp [ren, Op.unary], rfl⟩
  · cases h
end
end Go.Ab
