/- Regions that draw their order: the plain laws. -/
import Derived.Test.YtiomjekkmjinbaaAb15
import Derived.Orders
namespace Go.Ab
open Go

mutual
theorem vEq_eq : ∀ a b : Value, vEq a b = true → a = b
  | .bool a, b, h => by cases b <;> simp_all [vEq]
  | .int k a, b, h => by cases b <;> simp_all [vEq]
  | .float k a, b, h => by cases b <;> simp_all [vEq]
  | .complex k a c, b, h => by cases b <;> simp_all [vEq]
  | .string a, b, h => by
    cases b with
    | string c => simp only [vEq] at h; obtain ⟨⟨x⟩⟩ := a; obtain ⟨⟨y⟩⟩ := c; have : ((⟨x⟩ : Array UInt8) == ⟨y⟩) = true := h; simp at this; rw [this]
    | _ => simp [vEq] at h
  | .pointer a, b, h => by cases b <;> simp_all [vEq]
  | .slice a l c, b, h => by cases b <;> simp_all [vEq]
  | .map a, b, h => by cases b <;> simp_all [vEq]
  | .chan a, b, h => by cases b <;> simp_all [vEq]
  | .nilFunc, b, h => by cases b <;> simp_all [vEq]
  | .nilIface, b, h => by cases b <;> simp_all [vEq]
  | .func f ⟨a⟩ ⟨c⟩, b, h => by
    cases b with
    | func g x y =>
      cases x; cases y
      simp only [vEq, Bool.and_eq_true, beq_iff_eq] at h
      rw [h.1, vEqL_eq _ _ h.2.1, vEqL_eq _ _ h.2.2]
    | _ => simp [vEq] at h
  | .iface t v, b, h => by
    cases b with
    | iface u w =>
      simp only [vEq, Bool.and_eq_true, beq_iff_eq] at h
      rw [h.1, vEq_eq _ _ h.2]
    | _ => simp [vEq] at h
  | .agg ⟨a⟩, b, h => by
    cases b with
    | agg x => cases x; simp only [vEq] at h; rw [vEqL_eq _ _ h]
    | _ => simp [vEq] at h
  | .tuple ⟨a⟩, b, h => by
    cases b with
    | tuple x => cases x; simp only [vEq] at h; rw [vEqL_eq _ _ h]
    | _ => simp [vEq] at h
theorem vEqL_eq : ∀ a b : List Value, vEqL a b = true → a = b
  | [], b, h => by cases b <;> simp_all [vEqL]
  | a :: l, b, h => by
    cases b with
    | nil => simp [vEqL] at h
    | cons c m =>
      simp only [vEqL, Bool.and_eq_true] at h
      rw [vEq_eq _ _ h.1, vEqL_eq _ _ h.2]
end

def Sub (m m' : Mem) : Prop := ∀ i o, m.get i = some o → m'.get i = some o

section
variable {P : Program} {m m' : Mem} {sl : Slots}

theorem cellsOf_mono (h : Sub m m') {i : Nat} {cs : List Value} (hc : cellsOf m i = some cs) : cellsOf m' i = some cs := by
  unfold cellsOf at hc ⊢
  split at hc
  · rename_i hg; (try rw [h _ _ hg]); exact hc
  · cases hc
theorem mapOf_mono (h : Sub m m') {v : Value} {es : List (Value × Value)} (hc : mapOf m v = some es) : mapOf m' v = some es := by
  unfold mapOf at hc ⊢
  split at hc
  · exact hc
  · split at hc
    · rename_i hg; simp only [h _ _ hg]; exact hc
    · cases hc
  · cases hc
theorem liveAt_mono (h : Sub m m') {i : Nat} (hc : liveAt m i = true) : liveAt m' i = true := by
  unfold liveAt at hc ⊢
  split at hc
  · rename_i hg; rw [h _ _ hg]
  · rename_i hg; (try rw [h _ _ hg]); exact hc
  · cases hc
theorem loadA_mono (h : Sub m m') {t : TypeId} {x v : Value} (hl : loadA P m t x = some v) : loadA P m' t x = some v := by
  unfold loadA at hl ⊢
  split at hl
  · split at hl
    · rename_i ha hc; (try simp only [ha, cellsOf_mono h hc]); exact hl
    · rename_i ha hc; (try simp only [ha, cellsOf_mono h hc]); exact hl
    · cases hl
  · cases hl
theorem eqA_mono (h : Sub m m') : ∀ (d : Nat) (t : TypeId) (x y : Value) (b : Bool), eqA P m d t x y = some b → eqA P m' d t x y = some b := by
  intro d
  induction d with
  | zero => intro t x y b hb; simp [eqA] at hb
  | succ d ih =>
    intro t x y b hb
    simp only [eqA] at hb ⊢
    split at hb
    case h_9 =>
      rename_i hu
      try simp only [hu]
      split at hb
      · rename_i hg; (try rw [h _ _ hg]); exact hb
      · rename_i hg; (try rw [h _ _ hg]); exact hb
      · cases hb
    case h_15 fields xs ys hu =>
      try simp only [hu]
      split at hb
      · cases hb
      · rename_i hs
        rw [if_neg hs]
        generalize fields.toList = fs at hb ⊢
        induction fs with
        | nil => exact hb
        | cons f fs ihf =>
          simp only [List.foldr_cons] at hb ⊢
          split at hb
          · rename_i hn
            (try rw [if_pos hn])
            split at hb
            · rename_i a b' ha hb'
              try simp only [ha, hb']
              split at hb
              · rename_i he; (try simp only [ih _ _ _ _ he]); exact ihf hb
              · rename_i he; (try simp only [ih _ _ _ _ he]); exact hb
              · cases hb
            · cases hb
          · rename_i hn
            (try rw [if_neg hn])
            exact ihf hb
    all_goals first | (rename_i hu; (try simp only [hu]); exact hb; done) | (cases hb; done) | (simp_all; done)

theorem binA_mono (h : Sub m m') {op : BinOp} {t : TypeId} {x y v : Value} (hb : binA P m op t x y = some v) : binA P m' op t x y = some v := by
  have key : ∀ f : Bool → Value, (eqA P m 100 t x y).map f = some v → (eqA P m' 100 t x y).map f = some v := by
    intro f hf
    simp only [Option.map_eq_some_iff] at hf ⊢
    obtain ⟨b, h1, h2⟩ := hf
    exact ⟨b, eqA_mono h _ _ _ _ _ h1, h2⟩
  unfold binA at hb ⊢
  split at hb <;> (try exact hb) <;> (try (cases hb; done))
  all_goals
    first
      | (split at hb
         · cases hb
         · rename_i hg
           (try rw [if_neg hg])
           cases op <;> first | exact key _ hb | exact hb | (cases hb))
      | (cases op <;> first | exact key _ hb | exact hb | (cases hb))

theorem evQ_mono (h : Sub m m') {o : Oper} {v : Value} (hv : evQ P m sl o = some v) : evQ P m' sl o = some v := by
  obtain ⟨dst, op, type, pos, after, guard⟩ := o
  cases op
  case binOp op t x y yt =>
    simp only [evQ] at hv ⊢
    split at hv
    · rename_i ha hb; (try simp only [ha, hb]); exact binA_mono h hv
    · cases hv
  case fieldAddr t x f =>
    simp only [evQ] at hv ⊢
    split at hv
    · rename_i hu hx
      try simp only [hu, hx]
      split at hv
      · rename_i hf
        try simp only [hf]
        split at hv
        · rename_i hs hg; (try simp only [hs, h _ _ hg]); exact hv
        · cases hv
      · cases hv
    · cases hv
  case indexAddr t x ix =>
    simp only [evQ] at hv ⊢
    split at hv
    · rename_i e1 e2 e3; (try simp only [e1, e2, e3]); exact hv
    · rename_i e1 e2 e3
      try simp only [e1, e2, e3]
      split at hv
      · rename_i hi
        rw [if_pos ⟨hi.1, hi.2.1, liveAt_mono h hi.2.2⟩]; exact hv
      · cases hv
    · cases hv
  case load t a =>
    simp only [evQ] at hv ⊢
    split at hv
    · rename_i hx; (try simp only [hx]); exact loadA_mono h hv
    · cases hv
  case lookup t x k ok =>
    simp only [evQ] at hv ⊢
    split at hv
    · rename_i kt elem mp kk kn hu hx hk
      try simp only [hu, hx, hk]
      split at hv
      · rename_i e1 e2
        try simp only [e1, e2]
        split at hv
        · rename_i es hes
          simp only [mapOf_mono h hes]; exact hv
        · cases hv
      · cases hv
    · cases hv
  case entry x =>
    simp only [evQ] at hv ⊢
    split at hv
    · rename_i hx
      try simp only [hx]
      split at hv
      · rename_i hg
        try simp only [h _ _ hg]
        split at hv
        · rename_i hg2; (try simp only [h _ _ hg2]); exact hv
        · cases hv
      · cases hv
    · cases hv
  case call c =>
    obtain ⟨callee, args, argTypes⟩ := c
    cases callee with
    | value f => simp [evQ] at hv
    | invoke r nm => simp [evQ] at hv
    | builtin b =>
      cases b
      case len =>
        simp only [evQ] at hv ⊢
        split at hv
        · rename_i e1 e2
          try simp only [e1, e2]
          split at hv
          case h_4 =>
            rename_i hu
            try simp only [hu]
            split at hv
            · rename_i hg; (try simp only [h _ _ hg]); exact hv
            · cases hv
          all_goals first | (rename_i hu; (try simp only [hu]); exact hv; done) | (cases hv; done)
        · cases hv
      all_goals first | exact hv | (simp [evQ] at hv; done)
  all_goals exact hv

/-- Its value is the same in every memory. -/
theorem evQ_still {o : Oper} (h : stillOp o.op = true) : evQ P m sl o = evQ P .leaf sl o := by
  obtain ⟨dst, op, type, pos, after, guard⟩ := o
  cases op <;> first | rfl | cases h
end
end Go.Ab
