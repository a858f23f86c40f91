/- Lemmas for proofs by the transformer. -/
import Derived.Test.YtiomjekkmjinbaaAb33
namespace Go.Ab
open Go

section
variable {P : Program} {m : Mem} {n : Nat}

theorem memLet.mk {K : Mem → Prop} (h : ∀ m', m' = m → K m') : memLet m K := h m rfl
@[simp] theorem elimJ_none {a b : Prop} {f : Code → Prop} : elimJ none a b f = a := rfl
@[simp] theorem elimJ_ret {a b : Prop} {f : Code → Prop} : elimJ (some .ret) a b f = b := rfl
@[simp] theorem elimP_none {a : Prop} {f : Nat → Nat → Prop} : elimP none a f = a := rfl
@[simp] theorem elimP_some {i o : Nat} {a : Prop} {f : Nat → Nat → Prop} : elimP (some ⟨i, o, none⟩) a f = f i o := rfl
@[simp] theorem elimA_none {a : Prop} {f : Nat → Nat → Option Nat → Prop} : elimA none a f = a := rfl
@[simp] theorem elimA_some {i o : Nat} {s : Option Nat} {a : Prop} {f : Nat → Nat → Option Nat → Prop} : elimA (some ⟨i, o, s⟩) a f = f i o s := rfl
@[simp] theorem elimM_none {a : Prop} {f : Nat → Prop} : elimM none a f = a := rfl
@[simp] theorem elimM_some {i : Nat} {a : Prop} {f : Nat → Prop} : elimM (some i) a f = f i := rfl
@[simp] theorem elimE_none {a : Prop} {f : Value × Value → Prop} : elimE none a f = a := rfl
@[simp] theorem elimE_some {e : Value × Value} {a : Prop} {f : Value × Value → Prop} : elimE (some e) a f = f e := rfl
@[simp] theorem offOf_none (o : Nat) : offOf o none = o := rfl
@[simp] theorem offOf_some (o t : Nat) : offOf o (some t) = t := rfl

theorem Wc_eq {f : FuncId} {args : List Value} {fr : AFrame} {Q : Value → Mem → Nat → Prop} (h : enterA P f args .normal = some fr) : Wc P f args m n Q = W P fr m n Q := by
  unfold Wc; rw [h]
theorem W.fresh {fr : AFrame} {Q : Value → Mem → Nat → Prop} (h : (∀ i, n ≤ i → m.get i = none) → W P fr m n Q) : W P fr m n Q := fun H β w rf hf hm =>
  h (fun i hi => by
    cases hg : m.get i with
    | none => rfl
    | some o =>
      have := (hm.obj i o hg).1
      rw [Dm.has_iff] at this
      exact absurd this.1 (Nat.not_lt.2 hi)) H β w rf hf hm
theorem Wc.fresh {f : FuncId} {args : List Value} {Q : Value → Mem → Nat → Prop} (he : (enterA P f args .normal).isSome = true) (h : (∀ i, n ≤ i → m.get i = none) → Wc P f args m n Q) : Wc P f args m n Q := by
  obtain ⟨fr, hf⟩ := Option.isSome_iff_exists.1 he
  rw [Wc_eq hf]
  refine W.fresh fun hm => ?_
  have := h hm
  rwa [Wc_eq hf] at this
theorem Wc.mono {f : FuncId} {args : List Value} {Q R : Value → Mem → Nat → Prop} (h : Wc P f args m n Q) (hq : ∀ v m n, Q v m n → R v m n) : Wc P f args m n R := by
  unfold Wc at h ⊢
  split
  · rename_i fr hf; rw [hf] at h; exact W.mono h hq
  · rename_i hf; rw [hf] at h; exact h

/-- What was there and is not in X is as it was. -/
def Fr (m : Mem) (n : Nat) (m' : Mem) (n' : Nat) (X : Nat → Prop) : Prop := n ≤ n' ∧ ∀ i, i < n → ¬ X i → m'.get i = m.get i
theorem Fr.refl {X : Nat → Prop} : Fr m n m n X := ⟨Nat.le_refl _, fun _ _ _ => rfl⟩
theorem Fr.trans {m1 m2 : Mem} {n1 n2 : Nat} {X Y Z : Nat → Prop} (h : Fr m n m1 n1 X) (k : Fr m1 n1 m2 n2 Y) (hx : ∀ i, i < n → X i → Z i) (hy : ∀ i, i < n → Y i → Z i) : Fr m n m2 n2 Z :=
  ⟨Nat.le_trans h.1 k.1, fun i hi hz => (k.2 i (Nat.lt_of_lt_of_le hi h.1) (fun hh => hz (hy i hi hh))).trans (h.2 i hi fun hh => hz (hx i hi hh))⟩
theorem Fr.mono {m1 : Mem} {n1 : Nat} {X Y : Nat → Prop} (h : Fr m n m1 n1 X) (hx : ∀ i, i < n → X i → Y i) : Fr m n m1 n1 Y :=
  ⟨h.1, fun i hi hy => h.2 i hi fun hh => hy (hx i hi hh)⟩
/-- A block that is there lies below the next one. -/
theorem lt_of_get (hf : ∀ i, n ≤ i → m.get i = none) {i : Nat} {o : AObj} (h : m.get i = some o) : i < n :=
  Nat.lt_of_not_le fun hi => by rw [hf i hi] at h; cases h

/-- A reading in later words, said in the earlier ones. -/
theorem ObjR.back {β β' : Beta} {n n' : Dm} {w w' : World} {l : Loc} {o : AObj} (ha : ∀ i, n.has i = true → β' i = β i) (h : ObjR β n w l o) (h' : ObjR β' n' w' l o) : ObjR β n w' l o := by
  cases o with
  | cells ro elem esz cs =>
    cases ro with
    | none =>
      obtain ⟨h1, h2, _⟩ := h
      obtain ⟨_, _, c, c1, c2, c3⟩ := h'
      exact ⟨h1, h2, c, c1, fun i v hv => (c2 i v hv).trans (congrArg some (ren_agree ha v (blwL_get h2 hv))), c3⟩
    | some nl =>
      obtain ⟨h1, h2, h3, h4, _⟩ := h
      obtain ⟨_, _, _, _, h5⟩ := h'
      refine ⟨h1, h2, h3, h4, fun e => ?_⟩
      obtain ⟨c, el, fz, c1, c2⟩ := h5 e
      exact ⟨c, el, fz, c1, fun i v hv => (c2 i v hv).trans (congrArg some (ren_agree ha v (blwL_get h3 hv)))⟩
  | map es clk =>
    obtain ⟨h1, h2, h3, _⟩ := h
    obtain ⟨_, _, _, es', c1, c2, c3, c4⟩ := h'
    refine ⟨h1, h2, h3, es', c1, ?_, c3, c4⟩
    have : (es.map fun e => (ren β' e.1, ren β' e.2)) = es.map fun e => (ren β e.1, ren β e.2) := List.map_congr_left fun e he => by
      rw [ren_agree ha _ (h2 e he).1, ren_agree ha _ (h2 e he).2]
    rw [← this]; exact c2
  | iter mo since left cur =>
    obtain ⟨h1, h2, seen, stepped, _, h4⟩ := h
    obtain ⟨_, _, seen', stepped', c1, c2⟩ := h'
    refine ⟨h1, h2, seen', stepped', ?_, fun mp hmp => ?_⟩
    · cases mo with
      | none => exact c1
      | some mp =>
        have := (h4 mp rfl).1.1
        simp only [Option.map_some] at c1 ⊢
        rw [ha mp this] at c1; exact c1
    · obtain ⟨⟨k1, k2⟩, k3⟩ := c2 mp hmp
      have hh := (h4 mp hmp).1.1
      rw [ha mp hh] at k2 k3
      exact ⟨⟨hh, k2⟩, k3⟩
  | loop st pend fn nt slots params assign body ds =>
    obtain ⟨h1, h2, h3, _⟩ := h
    obtain ⟨_, _, _, tmps, c1, c2, c3⟩ := h'
    rw [ha ds h2] at c1
    exact ⟨h1, h2, h3, tmps, c1, c2, fun t v hv => (c3 t v hv).trans (congrArg some (ren_agree ha v (h3 t v hv)))⟩
  | deferred d =>
    cases d with
    | none => exact ⟨h.1, h'.2⟩
    | some ds =>
      obtain ⟨h1, h2, _⟩ := h
      obtain ⟨_, _, c1⟩ := h'
      refine ⟨h1, h2, ?_⟩
      have : ds.map (renD β') = ds.map (renD β) := List.map_congr_left fun d hd => renD_agree ha (List.all_eq_true.1 h2 d hd)
      rw [← this]; exact c1

/-- A call that ends in a constant and leaves all that was there: nothing else need be told of it. -/
theorem W.pure {fr : AFrame} {R : Value → Prop} {Q : Value → Mem → Nat → Prop} (h : W P fr m n fun v m' _ => (R v ∧ blw Dm.none v = true) ∧ ∀ i, i < n → m'.get i = m.get i) (hq : ∀ v, R v → Q v m n) : W P fr m n Q := by
  intro H β w rf hf hm
  obtain ⟨v, m', n', β', w', ⟨⟨hr, hb⟩, hs⟩, ex, hbv, hst⟩ := h H β w rf hf hm
  refine ⟨v, m, n, β, w', hq v hr, ?_, blw_mono (Dm.none_le _) v hb, fun cs => ?_⟩
  · have hsub : Sub m m' := fun i o hi => by
      have hlt := (hm.obj i o hi).1
      rw [Dm.has_iff] at hlt
      rw [hs i hlt.1]; exact hi
    exact {
      le := Dm.le_refl _
      agree := fun _ _ => rfl
      rel := ⟨hm.hol, fun i o hi => ⟨(hm.obj i o hi).1, ObjR.back ex.agree (hm.obj i o hi).2 (by
          have := (ex.rel.obj i o (hsub i o hi)).2
          rwa [ex.agree i (hm.obj i o hi).1] at this)⟩, hm.dis⟩
      os := ex.os
      tape := ex.tape
      output := ex.output
      size := ex.size
      keep := ex.keep
      from' := fun i o hi ho => .inr ⟨i, o, hi, ho, rfl⟩
      ros := fun i o hi _ => hi }
  · rw [ren_const β v hb, ← ren_const β' v hb]
    exact hst cs
theorem Wc.pure {f : FuncId} {args : List Value} {R : Value → Prop} {Q : Value → Mem → Nat → Prop} (h : Wc P f args m n fun v m' _ => (R v ∧ blw Dm.none v = true) ∧ ∀ i, i < n → m'.get i = m.get i)
    (hq : ∀ v, R v → Q v m n) : Wc P f args m n Q := by
  unfold Wc at h ⊢
  split
  · rename_i fr hf; rw [hf] at h; exact W.pure h hq
  · rename_i hf; rw [hf] at h; exact h

theorem enterA_form {f : FuncId} {args : List Value} {k : CallKind} {fr : AFrame} (h : enterA P f args k = some fr) : ∃ nt c, fr = ⟨f, nt, enum 0 args, [.code c], [], false, k, none⟩ := by
  unfold enterA at h
  split at h
  · split at h
    · split at h
      · cases h
      · cases h; exact ⟨_, _, rfl⟩
    · cases h
  · cases h

/-- A call on constants that comes to its end in no memory does so in any memory. -/
theorem Wc.closed {f : FuncId} {args : List Value} {R : Value → Prop} {Q : Value → Mem → Nat → Prop} (ha : blwL Dm.none args = true) (h : Wc P f args .leaf 0 fun v _ _ => R v ∧ blw Dm.none v = true) (hq : ∀ v, R v → Q v m n) :
    Wc P f args m n Q := by
  unfold Wc at h ⊢
  cases he : enterA P f args .normal with
  | none => rw [he] at h; exact h
  | some fr =>
  rw [he] at h
  simp only at h ⊢
  obtain ⟨nt, c, rfl⟩ := enterA_form he
  intro H β w rf hf hm
  have hb0 : ∀ (d : Dm) t v, lk (enum 0 args) t = some v → blw d v = true := fun d t v hv => blw_mono (Dm.none_le _) v (by
    obtain ⟨_, h2⟩ := enum_lk _ _ _ _ hv
    exact blwL_get ha h2)
  have hf0 : RelF β ⟨fun _ => false, 0⟩ ⟨f, nt, enum 0 args, [.code c], [], false, .normal, none⟩ rf :=
    ⟨hf.fn, ⟨hf.tmps.1, fun t v hv => ⟨(hf.tmps.2 t v hv).1, hb0 _ t v hv⟩⟩, hf.todo, (fun x hx => by
      rcases List.mem_cons.1 hx with rfl | hx
      · rfl
      · cases hx), hf.defers, (fun d hd => by cases hd), hf.mode, hf.kind, hf.round, (fun l hl => by cases hl)⟩
  obtain ⟨v, m', n', β', w', ⟨hr, hb⟩, ex, hbv, hst⟩ := h (fun _ => false) β w rf hf0 (relM_nil β w)
  refine ⟨v, m, n, β, w', hq v hr, ?_, blw_mono (Dm.none_le _) v hb, fun cs => ?_⟩
  · have hkeep : ∀ b, b < w.heap.size → w'.heap[b]? = w.heap[b]? := fun b hb => ex.keep b hb fun i o hi => by simp [Tr.get] at hi
    exact {
      le := Dm.le_refl _
      agree := fun _ _ => rfl
      rel := ⟨hm.hol, fun i o hi => ⟨(hm.obj i o hi).1, (hm.obj i o hi).2.world ex.size (fun hn => hkeep _ ((hm.obj i o hi).2.lt hn)) (fun mp since left cur e => by
        subst e
        obtain ⟨_, _, _, _, _, h4⟩ := (hm.obj i _ hi).2
        exact hkeep _ (h4 mp rfl).1.2)⟩, hm.dis⟩
      os := ex.os
      tape := ex.tape
      output := ex.output
      size := ex.size
      keep := fun b hb _ => hkeep b hb
      from' := fun i o hi ho => .inr ⟨i, o, hi, ho, rfl⟩
      ros := fun i o hi _ => hi }
  · rw [ren_const β v hb, ← ren_const β' v hb]
    exact hst cs

theorem enum_get : ∀ (l : List Value) (i t : Nat), i ≤ t → lk (enum i l) t = l[t - i]?
  | [], i, t, _ => by simp [enum, lk]
  | v :: l, i, t, h => by
    simp only [enum, lk]
    split
    · rename_i e; subst e; simp
    · rename_i e
      rw [enum_get l (i + 1) t (by omega)]
      have : t - i = (t - (i + 1)) + 1 := by omega
      rw [this]; simp

/-- The same for arguments that name blocks which nobody looks at: blocks 0 to k - 1 stand for any. -/
theorem Wc.closedAt {f : FuncId} {args args0 : List Value} {k : Nat} {σ : Nat → Nat} {R : Value → Prop} {Q : Value → Mem → Nat → Prop} (hr : ∀ β, renL β args = renL (fun i => β (σ i)) args0) (hb0 : blwL ⟨fun _ => false, k⟩ args0 = true)
    (h : Wc P f args0 .leaf k fun v _ _ => R v ∧ blw Dm.none v = true) (hq : ∀ v, R v → Q v m n) : Wc P f args m n Q := by
  unfold Wc at h ⊢
  have hlen : args.length = args0.length := by simpa [renL_eq] using congrArg List.length (hr fun _ => ⟨0, 0, 0, false, none⟩)
  have hen : enterA P f args0 .normal = (enterA P f args .normal).map fun fr => { fr with slots := enum 0 args0 } := by
    unfold enterA
    split
    · split
      · split
        · rfl
        · simp [hlen]
      · rfl
    · rfl
  cases he : enterA P f args .normal with
  | none => rw [hen, he] at h; exact h
  | some fr =>
  rw [hen, he] at h
  simp only [Option.map_some] at h ⊢
  obtain ⟨nt, c, rfl⟩ := enterA_form he
  intro H β w rf hf hm
  have hf0 : RelF (fun i => β (σ i)) ⟨fun _ => false, k⟩ ⟨f, nt, enum 0 args0, [.code c], [], false, .normal, none⟩ rf :=
    ⟨hf.fn, ⟨hf.tmps.1, fun t v hv => by
      have hv := hv
      rw [enum_get _ _ _ (Nat.zero_le _)] at hv
      simp only [Nat.sub_zero] at hv
      have hlt : t < args.length := by rw [hlen]; exact (List.getElem?_eq_some_iff.1 hv).1
      have hu : lk (enum 0 args) t = some args[t] := by rw [enum_get _ _ _ (Nat.zero_le _)]; simp [hlt]
      have hx := congrArg (fun q : List Value => q[t]?) (hr β)
      simp only [renL_eq, List.getElem?_map, hv, Option.map_some, List.getElem?_eq_getElem hlt, Option.some.injEq] at hx
      have h1 := (hf.tmps.2 t _ hu).1
      rw [hx] at h1
      exact ⟨h1, blwL_get hb0 hv⟩⟩, hf.todo, (fun x hx => by
      rcases List.mem_cons.1 hx with rfl | hx
      · rfl
      · cases hx), hf.defers, (fun d hd => by cases hd), hf.mode, hf.kind, hf.round, (fun l hl => by cases hl)⟩
  obtain ⟨v, m', n', β', w', ⟨hr', hb⟩, ex, hbv, hst⟩ := h (fun _ => false) (fun i => β (σ i)) w rf hf0 ⟨(fun i hi => by cases hi), (fun i o hi => by simp [Tr.get] at hi), (fun i j oi oj _ hi => by simp [Tr.get] at hi)⟩
  refine ⟨v, m, n, β, w', hq v hr', ?_, blw_mono (Dm.none_le _) v hb, fun cs => ?_⟩
  · have hkeep : ∀ b, b < w.heap.size → w'.heap[b]? = w.heap[b]? := fun b hb => ex.keep b hb fun i o hi => by simp [Tr.get] at hi
    exact {
      le := Dm.le_refl _
      agree := fun _ _ => rfl
      rel := ⟨hm.hol, fun i o hi => ⟨(hm.obj i o hi).1, (hm.obj i o hi).2.world ex.size (fun hn => hkeep _ ((hm.obj i o hi).2.lt hn)) (fun mp since left cur e => by
        subst e
        obtain ⟨_, _, _, _, _, h4⟩ := (hm.obj i _ hi).2
        exact hkeep _ (h4 mp rfl).1.2)⟩, hm.dis⟩
      os := ex.os
      tape := ex.tape
      output := ex.output
      size := ex.size
      keep := fun b hb _ => hkeep b hb
      from' := fun i o hi ho => .inr ⟨i, o, hi, ho, rfl⟩
      ros := fun i o hi _ => hi }
  · rw [ren_const β v hb, ← ren_const β' v hb]
    exact hst cs

/-- What the kernel's evaluator says of a call without arguments, in any memory. -/
theorem Wc.knownOn (hmix : P.follows .mixedOrders = true) {keep : FuncId → Option (List Nat)} {fuel : Nat} {f : FuncId} {args : List Value} {Q : Value → Mem → Nat → Prop} (ha : blwL Dm.none args = true)
    (h : allTrue (callK P keep fuel f args .leaf 0) = true) (hq : Q (.bool true) m n) : Wc P f args m n Q := by
  refine Wc.closed (R := fun v => v = .bool true) ha ?_ (fun v hv => by subst hv; exact hq)
  unfold callK at h
  unfold Wc
  split at h
  · rename_i fr hen
    rw [hen]
    cases hr : evF (evK P keep fuel) fr .leaf 0 with
    | none => rw [hr] at h; simp [allTrue] at h
    | some rs =>
      rw [hr] at h
      refine ((evK_sound (draw_ok hmix) keep fuel).rec fr .leaf 0 rs hr).mono fun v m' n' hm => ?_
      simp only [allTrue, List.all_eq_true] at h
      have := h _ hm
      have hv : v = .bool true := by
        cases v with
        | bool b => cases b <;> simp [isTrue] at this ⊢
        | _ => simp [isTrue] at this
      exact ⟨hv, by rw [hv]; rfl⟩
  · simp [allTrue] at h
theorem allTrue_Wc (hmix : P.follows .mixedOrders = true) {keep : FuncId → Option (List Nat)} {fuel k : Nat} {f : FuncId} {args : List Value} (h : allTrue (callK P keep fuel f args .leaf k) = true) :
    Wc P f args .leaf k fun v _ _ => v = .bool true ∧ blw Dm.none v = true := by
  unfold callK at h
  unfold Wc
  split at h
  · rename_i fr hen
    rw [hen]
    cases hr : evF (evK P keep fuel) fr .leaf k with
    | none => rw [hr] at h; simp [allTrue] at h
    | some rs =>
      rw [hr] at h
      refine ((evK_sound (draw_ok hmix) keep fuel).rec fr .leaf k rs hr).mono fun v m' n' hm => ?_
      simp only [allTrue, List.all_eq_true] at h
      have := h _ hm
      have hv : v = .bool true := by
        cases v with
        | bool b => cases b <;> simp [isTrue] at this ⊢
        | _ => simp [isTrue] at this
      exact ⟨hv, by rw [hv]; rfl⟩
  · simp [allTrue] at h
theorem Wc.known (hmix : P.follows .mixedOrders = true) {keep : FuncId → Option (List Nat)} {fuel : Nat} {f : FuncId} {Q : Value → Mem → Nat → Prop} (h : allTrue (callK P keep fuel f [] .leaf 0) = true) (hq : Q (.bool true) m n) :
    Wc P f [] m n Q := Wc.knownOn hmix rfl h hq
end
end Go.Ab
