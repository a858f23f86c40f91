/- A law: from W, for all arguments of plain data, to the call. -/
import Derived.Test.YtiomjekkmjinbaaAb37
namespace Go.Ab
open Go Go.ChangeShapes Go.RowKit

section
variable {P : Program} {H : Type} {enc : TypeId × Value → H} {w w' : World} {m : Mem}

theorem TyV.int {t : TypeId} {k : IntKind} {v : Value} (hu : P.underlying t = some (.int k)) (h : TyV P m t v) : ∃ x, v = .int k x ∧ (Lit.int k x).wf = true := by
  unfold TyV at h
  rw [hu] at h
  obtain ⟨f, h⟩ := h
  cases f with
  | zero => exact h.elim
  | succ f =>
    simp only [TyC, hu] at h
    obtain ⟨x, h1, h2⟩ := h
    simp only [List.cons.injEq, and_true] at h1
    exact ⟨x, h1, h2⟩
theorem TyV.bool {t : TypeId} {v : Value} (hu : P.underlying t = some .bool) (h : TyV P m t v) : ∃ x, v = .bool x := by
  unfold TyV at h
  rw [hu] at h
  obtain ⟨f, h⟩ := h
  cases f with
  | zero => exact h.elim
  | succ f =>
    simp only [TyC, hu] at h
    obtain ⟨x, h1⟩ := h
    simp only [List.cons.injEq, and_true] at h1
    exact ⟨x, h1⟩
/-- A slice that came in. -/
theorem TyV.slice {t e : TypeId} {v : Value} (hu : P.underlying t = some (.slice e)) (h : TyV P m t v) : ∃ id len cap nl es f, v = .slice (some ⟨id, 0, none⟩) len cap ∧ len ≤ cap ∧ cap ≤ maxLen ∧ es.length = len ∧
    m.get id = some (.cells (some nl) e (P.cellsOf e) es.flatten) ∧ (nl = true → es = []) ∧ ∀ x ∈ es, x.length = P.cellsOf e ∧ TyC P m f e x := by
  unfold TyV at h
  rw [hu] at h
  obtain ⟨f, h⟩ := h
  cases f with
  | zero => exact h.elim
  | succ f =>
    simp only [TyC, hu] at h
    obtain ⟨id, len, cap, nl, es, h1, h2⟩ := h
    simp only [List.cons.injEq, and_true] at h1
    exact ⟨id, len, cap, nl, es, f, h1, h2⟩
/-- A slice's cells, where they lie. -/
theorem view_in {e id cap : Nat} {nl : Bool} {sz : Nat} {cs : List Value} (h : m.get id = some (.cells (some nl) e sz cs)) : View m e (some ⟨id, 0, none⟩) cap cs := by
  by_cases hc : cs = []
  · exact .inl hc
  · refine .inr ⟨id, 0, none, some nl, sz, cs, rfl, h, ?_, fun h => (h rfl).elim, fun j v hj => by simpa using hj⟩
    have : 0 < cs.length := List.length_pos_iff.2 hc
    simp [liveAt, h, this]
theorem TyC.bool {f : Nat} {t : TypeId} {cs : List Value} (hu : P.underlying t = some .bool) (h : TyC P m f t cs) : ∃ b, cs = [.bool b] := by
  cases f with
  | zero => exact h.elim
  | succ f => simpa only [TyC, hu] using h
theorem TyC.int {f : Nat} {t : TypeId} {k : IntKind} {cs : List Value} (hu : P.underlying t = some (.int k)) (h : TyC P m f t cs) : ∃ x, cs = [.int k x] ∧ (Lit.int k x).wf = true := by
  cases f with
  | zero => exact h.elim
  | succ f => simpa only [TyC, hu] using h
/-- Rows of one cell each. -/
theorem rows_one {α : Type} {f : α → Value} : ∀ {es : List (List Value)}, (∀ x ∈ es, ∃ a, x = [f a]) → ∃ as : List α, es.flatten = as.map f ∧ es.length = as.length
  | [], _ => ⟨[], rfl, rfl⟩
  | x :: es, h => by
    obtain ⟨a, rfl⟩ := h x (List.mem_cons_self ..)
    obtain ⟨as, h1, h2⟩ := rows_one (es := es) (fun y hy => h y (List.mem_cons_of_mem _ hy))
    exact ⟨a :: as, by simp [h1], by simp [h2]⟩

theorem law_calls {L : List TypeId} (hp : plainB P L = true) {f : FuncId} {ts : List TypeId} {args : Array Value} {ds : List (DataW H)} {ps : List MemPlace} {base : Nat} (hL : ∀ t ∈ ts, t ∈ L)
    (hA : DataW.TrodAll enc P w 0 (fun _ => true) true ts args.toList ds ps) (hok : ∀ (j : Nat) t v, ts[j]? = some t → args.toList[j]? = some v → Value.okWide P w .any base t v)
    (h : ∀ m n as, as.length = ts.length → (∀ (j : Nat) t a, ts[j]? = some t → as[j]? = some a → TyV P m t a) → (∀ i o, m.get i = some o → own o = false) → (∀ i, n ≤ i → m.get i = none) → Wc P f as m n fun v _ _ => v = .bool true) :
    Calls P f args w fun e w' => e = .returned (.bool true) ∧ Below w.heap.size w w' := by
  obtain ⟨β, n, m, as, _, hro, hb, hren, hlen, hty⟩ := args_abs hp hL hA hok (fun _ => ⟨0, 0, 0, false, none⟩) 0 .leaf ⟨relM_nil _ w, fun i o hi => by simp [Tr.get] at hi⟩
  have hw := h m n as hlen hty hro.ro (fun i hi => by
    cases hg : m.get i with
    | none => rfl
    | some o => have := has_D0.1 (hro.rel.obj i o hg).1; omega)
  unfold Wc at hw
  split at hw
  · rename_i fr hf
    have hc := W.calls hf hw hro.rel hb
    have : (renL β as).toArray = args := by rw [hren]
    rw [this] at hc
    refine Calls.mono hc fun e w' ⟨v, m', n', β', hv, he, ex, _⟩ => ⟨?_, ex.below hro.ro⟩
    rw [he, hv]; rfl
  · exact hw.elim

/-- The arguments read behind the call as they did. -/
theorem law_args {L : List TypeId} (hp : plainB P L = true) {T : TypeId → Prop} (K : Kids P T) (hz : ∀ t e, T t → P.underlying t = some (.slice e) → 0 < P.cellsOf e) {ts : List TypeId} {vs : List Value} {ds : List (DataW H)} {ps : List MemPlace}
    (hL : ∀ t ∈ ts, t ∈ L) (hT : ∀ t ∈ ts, T t) (hA : DataW.TrodAll enc P w 0 (fun _ => true) true ts vs ds ps) (hg : Below w.heap.size w w') {sp : Nat → Bool} (hs : ∀ p ∈ ps, sp p.block = true) : DataW.TrodAll enc P w' 0 sp true ts vs ds ps :=
  (trodAll_grow (fun b hb => hg.block b hb) hp hL hA).respare K hz hT hs
end
end Go.Ab
