/- What came in: structs, rows of structs. -/
import Derived.Test.YtiomjekkmjinbaaAb38
import Derived.Test.YtiomjekkmjinbaaAb40
namespace Go.Ab
open Go

section
variable {P : Program} {m : Mem} {n : Nat}

def fieldTys (P : Program) (t : TypeId) : Option (List TypeId) :=
  match P.underlying t with
  | some (.struct fs) => some (fs.toList.map (·.type))
  | _ => none
theorem TyC.fields {f : Nat} {t : TypeId} {cs : List Value} {ts : List TypeId} (hu : fieldTys P t = some ts) (h : TyC P m f t cs) :
    ∃ (g : Nat) (parts : List (List Value)), cs = parts.flatten ∧ parts.length = ts.length ∧ ∀ (i : Nat) t p, ts[i]? = some t → parts[i]? = some p → TyC P m g t p := by
  unfold fieldTys at hu
  split at hu
  · rename_i fs hfs
    cases hu
    cases f with
    | zero => exact h.elim
    | succ f =>
      simp only [TyC, hfs] at h
      obtain ⟨parts, h1, h2, h3⟩ := h
      refine ⟨f, parts, h1, by simpa using h2, fun i t p ht hp => ?_⟩
      rw [List.getElem?_map] at ht
      cases hf : fs.toList[i]? with
      | none => rw [hf] at ht; cases ht
      | some fd =>
        rw [hf] at ht
        simp only [Option.map_some, Option.some.injEq] at ht
        subst ht
        exact (h3 i fd p hf hp).2
  · cases hu
theorem TyV.st {t : TypeId} {v : Value} {ts : List TypeId} (hu : fieldTys P t = some ts) (h : TyV P m t v) :
    ∃ f cs, v = .agg ⟨cs⟩ ∧ TyC P m f t cs := by
  unfold fieldTys at hu
  unfold TyV at h
  split at hu
  · rename_i fs hfs
    rw [hfs] at h
    exact h
  · cases hu
theorem TyC.slice {f : Nat} {t e : TypeId} {cs : List Value} (hu : P.underlying t = some (.slice e)) (h : TyC P m f t cs) : ∃ id len cap nl es f, cs = [.slice (some ⟨id, 0, none⟩) len cap] ∧ len ≤ cap ∧ cap ≤ maxLen ∧ es.length = len ∧
    m.get id = some (.cells (some nl) e (P.cellsOf e) es.flatten) ∧ (nl = true → es = []) ∧ ∀ x ∈ es, x.length = P.cellsOf e ∧ TyC P m f e x := by
  cases f with
  | zero => exact h.elim
  | succ f =>
    simp only [TyC, hu] at h
    obtain ⟨id, len, cap, nl, es, h1, h2⟩ := h
    exact ⟨id, len, cap, nl, es, f, h1, h2⟩

theorem rows_enc {α : Type} {enc : α → List Value} : ∀ {es : List (List Value)}, (∀ x ∈ es, ∃ a, x = enc a) → ∃ xs : List α, es.flatten = xs.flatMap enc ∧ es.length = xs.length
  | [], _ => ⟨[], rfl, rfl⟩
  | x :: es, h => by
    obtain ⟨a, rfl⟩ := h x (List.mem_cons_self ..)
    obtain ⟨xs, h1, h2⟩ := rows_enc (es := es) (fun y hy => h y (List.mem_cons_of_mem _ hy))
    exact ⟨a :: xs, by simp [h1], by simp [h2]⟩
/-- A slice that came in, as one that is read. -/
theorem Sl.in_ {e id cap : Nat} {nl : Bool} {sz : Nat} {cs : List Value} (h : m.get id = some (.cells (some nl) e sz cs)) (hi : id < n) (hnl : nl = true → cs = []) : Sl m n (some ⟨id, 0, none⟩) cap cs := by
  refine .inr ⟨id, 0, none, cs, rfl, hi, by simp [cellsOf, h], fun hc => ⟨?_, fun h => (h rfl).elim, ?_⟩, by simp, by simp⟩
  · have : 0 < cs.length := List.length_pos_iff.2 hc
    simp [liveAt, h, this]
  · cases nl with
    | true => exact (hc (hnl rfl)).elim
    | false => simp [nilAt, h]
end
end Go.Ab
