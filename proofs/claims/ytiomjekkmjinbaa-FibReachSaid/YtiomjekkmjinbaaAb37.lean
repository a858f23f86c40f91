/- From W to a statement: arguments of plain data. -/
import Derived.Test.YtiomjekkmjinbaaAb36
import Derived.Below
import Derived.ChangeSame
import Derived.ReadAgain
import Derived.ChangeCalls
namespace Go.Ab
open Go Go.ChangeShapes Go.RowKit

section
variable {P : Program} {H : Type} {enc : TypeId × Value → H} {w w' : World}

theorem cell_grow (hg : ∀ b, b < w.heap.size → w'.heap[b]? = w.heap[b]?) {a : Addr} {v : Value} (h : w.cell? a = some v) : w'.cell? a = some v := by
  have := World.block_lt_of_cell? w _ h
  unfold World.cell? at h ⊢
  rw [hg _ this]; exact h
theorem cells_grow (hg : ∀ b, b < w.heap.size → w'.heap[b]? = w.heap[b]?) {base n : Nat} {a : Addr} {cs : List Value} (h : w.cells? base a n = some cs) : w'.cells? base a n = some cs := by
  unfold World.cells? at h ⊢
  split at h
  · rename_i hb
    rw [if_pos hb]
    exact mapM_mono (fun x y hxy => cell_grow hg hxy) h
  · cases h

theorem trod_slice_eq {t e : TypeId} {n len cap base : Nat} {a : Addr} {sp : Nat → Bool} {held : Bool} (ht : P.underlying t = some (.slice e)) :
    DataW.trod enc P w base sp held (n + 1) t [.slice (some a) len cap] = if base ≤ a.block ∧ len ≤ cap ∧ cap ≤ maxLen then
      ((List.range len).mapM fun i => (w.cells? base (a.add (i * P.cellsOf e)) (P.cellsOf e)).bind (DataW.trod enc P w base sp held n e)).bind fun elems =>
        (if sp a.block then (List.range (cap - len)).mapM fun j => (w.cells? base (a.add ((len + j) * P.cellsOf e)) (P.cellsOf e)).bind (DataW.trod enc P w base sp held n e) else some []).map fun rest =>
          (.slice (elems.map (·.1)) (rest.map (·.1)), MemPlace.row a ((elems.length + rest.length) * P.cellsOf e) ++ (elems ++ rest).flatMap (·.2)) else none := by
  conv => lhs; unfold DataW.trod
  rw [ht]
theorem trod_struct_eq {t : TypeId} {fs : Array Field} {n base : Nat} {sp : Nat → Bool} {held : Bool} {cs : List Value} (ht : P.underlying t = some (.struct fs)) :
    DataW.trod enc P w base sp held (n + 1) t cs = if cs.length = P.cellsOf t then
      (fs.toList.mapM fun f => DataW.trod enc P w base sp held n f.type ((cs.drop f.offset).take (P.cellsOf f.type))).map fun xs => (.agg (xs.map (·.1)), xs.flatMap (·.2)) else none := by
  conv => lhs; unfold DataW.trod
  rw [ht]

theorem mapM_mono_mem {α β : Type} {f g : α → Option β} : ∀ {l : List α} {r : List β}, (∀ x ∈ l, ∀ y, f x = some y → g x = some y) → l.mapM f = some r → l.mapM g = some r
  | [], r, _, h => by simpa using h
  | a :: l, r, hfg, h => by
    rw [List.mapM_cons] at h ⊢
    simp only [Option.bind_eq_bind, Option.bind_eq_some_iff, Option.pure_def, Option.some.injEq] at h ⊢
    obtain ⟨y, h1, ys, h2, h3⟩ := h
    exact ⟨y, hfg a (List.mem_cons_self ..) y h1, ys, mapM_mono_mem (fun x hx => hfg x (List.mem_cons_of_mem _ hx)) h2, h3⟩

theorem trod_grow (hg : ∀ b, b < w.heap.size → w'.heap[b]? = w.heap[b]?) {L : List TypeId} (hp : plainB P L = true) {base : Nat} {sp : Nat → Bool} {held : Bool} : ∀ (f : Nat) (t : TypeId) (cs : List Value) (x : DataW H × List MemPlace), t ∈ L →
    DataW.trod enc P w base sp held f t cs = some x → DataW.trod enc P w' base sp held f t cs = some x := by
  intro f
  induction f with
  | zero => intro t cs x _ h; simp [DataW.trod] at h
  | succ f ih =>
    intro t cs x ht h
    have hpt := List.all_eq_true.1 hp t ht
    split at hpt
    · rename_i hu
      obtain ⟨b, rfl, rfl⟩ := DataW.trod_bool hu h
      simp [DataW.trod, hu]
    · rename_i k hu
      obtain ⟨b, rfl, rfl, hw⟩ := DataW.trod_int hu h
      simp [DataW.trod, hu, hw]
    · rename_i hu
      obtain ⟨s, rfl, rfl, hs⟩ := DataW.trod_string hu h
      simp [DataW.trod, hu, hs]
    · rename_i e hu
      simp only [Bool.and_eq_true, decide_eq_true_eq] at hpt
      have he : e ∈ L := by simpa using hpt.1
      have hel : ∀ (a : Addr) y, ((w.cells? base a (P.cellsOf e)).bind (DataW.trod enc P w base sp held f e)) = some y → ((w'.cells? base a (P.cellsOf e)).bind (DataW.trod enc P w' base sp held f e)) = some y := by
        intro a y hy
        cases hc : w.cells? base a (P.cellsOf e) with
        | none => rw [hc] at hy; cases hy
        | some row =>
          rw [hc] at hy
          rw [cells_grow hg hc]
          exact ih e row y he hy
      rcases DataW.trod_slice hu h with ⟨rfl, rfl⟩ | ⟨a, len, cap, _, _, _, _, rfl, _⟩
      · simp [DataW.trod, hu]
      · rw [trod_slice_eq hu] at h ⊢
        split at h
        · rename_i hc
          rw [if_pos hc]
          simp only [Option.bind_eq_some_iff, Option.map_eq_some_iff] at h ⊢
          obtain ⟨elems, h1, rest, h2, h3⟩ := h
          refine ⟨elems, mapM_mono (fun i y hy => hel _ y hy) h1, rest, ?_, h3⟩
          split at h2
          · rename_i hs; rw [if_pos hs]; exact mapM_mono (fun i y hy => hel _ y hy) h2
          · rename_i hs; rw [if_neg hs]; exact h2
        · cases h
    · rename_i fs hu
      simp only [Bool.and_eq_true] at hpt
      rw [trod_struct_eq hu] at h ⊢
      split at h
      · rename_i hc
        rw [if_pos hc]
        simp only [Option.map_eq_some_iff] at h ⊢
        obtain ⟨xs, h1, h2⟩ := h
        exact ⟨xs, mapM_mono_mem (fun fd hfd y hy => ih fd.type _ y (by simpa using List.all_eq_true.1 hpt.1 fd hfd) hy) h1, h2⟩
      · cases h
    · cases hpt

theorem trodAll_grow (hg : ∀ b, b < w.heap.size → w'.heap[b]? = w.heap[b]?) {L : List TypeId} (hp : plainB P L = true) {base : Nat} {sp : Nat → Bool} {held : Bool} : ∀ {ts : List TypeId} {vs : List Value} {ds : List (DataW H)} {ps : List MemPlace},
    (∀ t ∈ ts, t ∈ L) → DataW.TrodAll enc P w base sp held ts vs ds ps → DataW.TrodAll enc P w' base sp held ts vs ds ps
  | [], [], [], _, _, h => h
  | t :: _, _ :: _, _ :: _, _, hL, ⟨p, q, ⟨f, hf⟩, hs, e⟩ => ⟨p, q, ⟨f, trod_grow hg hp f _ _ _ (hL t (List.mem_cons_self ..)) hf⟩, trodAll_grow hg hp (fun t ht => hL t (List.mem_cons_of_mem _ ht)) hs, e⟩

/-- A value of a type of plain data. -/
def TyV (P : Program) (m : Mem) (t : TypeId) (v : Value) : Prop :=
  match P.underlying t with
  | some (.struct _) => ∃ f cs, v = .agg ⟨cs⟩ ∧ TyC P m f t cs
  | _ => ∃ f, TyC P m f t [v]
theorem TyV.more {m m' : Mem} {n : Nat} (hs : ∀ i, i < n → m'.get i = m.get i) (hl : ∀ i o, m.get i = some o → i < n) {t : TypeId} {v : Value} (h : TyV P m t v) : TyV P m' t v := by
  unfold TyV at h ⊢
  split at h
  · obtain ⟨f, cs, h1, h2⟩ := h
    exact ⟨f, cs, h1, TyC.more hs hl f h2⟩
  · obtain ⟨f, h⟩ := h
    exact ⟨f, TyC.more hs hl f h⟩

/-- What came in, as abstract values. -/
theorem args_abs {L : List TypeId} (hp : plainB P L = true) {base0 : Nat} : ∀ {ts : List TypeId} {vs : List Value} {ds : List (DataW H)} {ps : List MemPlace}, (∀ t ∈ ts, t ∈ L) → DataW.TrodAll enc P w 0 (fun _ => true) true ts vs ds ps →
    (∀ (j : Nat) t v, ts[j]? = some t → vs[j]? = some v → Value.okWide P w .any base0 t v) → ∀ β n m, RO β n m w →
    ∃ β' n' m' as, Mo β n m β' n' m' ∧ RO β' n' m' w ∧ blwL (D0 n') as = true ∧ renL β' as = vs ∧ as.length = ts.length ∧ ∀ (j : Nat) t a, ts[j]? = some t → as[j]? = some a → TyV P m' t a
  | [], [], [], _, _, _, _, β, n, m, h => ⟨β, n, m, [], Mo.refl .., h, rfl, rfl, rfl, fun j t a hj => by simp at hj⟩
  | t :: ts, v :: vs, d :: ds, _, hL, ⟨p, q, ⟨f, hf⟩, hs, _⟩, hok, β, n, m, h => by
    obtain ⟨β1, n1, m1, cs, a1, a2, a3, a4, a5⟩ := abs_of hp f t _ _ (hL t (List.mem_cons_self ..)) hf β n m h
    obtain ⟨β2, n2, m2, as, b1, b2, b3, b4, b5, b6⟩ := args_abs hp (fun t ht => hL t (List.mem_cons_of_mem _ ht)) hs (fun j t v hj hv => hok (j + 1) t v (by simpa using hj) (by simpa using hv)) β1 n1 m1 a2
    have hlt : ∀ i o, m1.get i = some o → i < n1 := fun i o ho => has_D0.1 (a2.rel.obj i o ho).1
    have key : ∃ a, blw (D0 n1) a = true ∧ ren β1 a = v ∧ TyV P m1 t a := by
      have hpt := List.all_eq_true.1 hp t (hL t (List.mem_cons_self ..))
      have hokv := hok 0 t v rfl rfl
      unfold Value.okWide at hokv
      unfold TyV
      split at hpt
      · rename_i hu
        rw [hu] at hokv
        simp only [Cell.okWide, hu] at hokv
        obtain ⟨b, hb, _⟩ := DataW.trod_bool hu hf
        cases f with
        | zero => exact a5.elim
        | succ f =>
        simp only [TyC, hu] at a5
        obtain ⟨b', rfl⟩ := a5
        refine ⟨.bool b', rfl, ?_, by rw [hu]; exact ⟨f + 1, by simp only [TyC, hu]; exact ⟨b', rfl⟩⟩⟩
        unfold Cell.ok at hokv
        rw [hu] at hokv
        split at hokv <;> simp_all [Value.cells, renL, ren]
      · rename_i k hu
        rw [hu] at hokv
        simp only [Cell.okWide, hu] at hokv
        cases f with
        | zero => exact a5.elim
        | succ f =>
        simp only [TyC, hu] at a5
        obtain ⟨x, rfl, hx⟩ := a5
        refine ⟨.int k x, rfl, ?_, by rw [hu]; exact ⟨f + 1, by simp only [TyC, hu]; exact ⟨x, rfl, hx⟩⟩⟩
        unfold Cell.ok at hokv
        rw [hu] at hokv
        split at hokv <;> simp_all [Value.cells, renL, ren]
      · rename_i hu
        rw [hu] at hokv
        simp only [Cell.okWide, hu] at hokv
        cases f with
        | zero => exact a5.elim
        | succ f =>
        simp only [TyC, hu] at a5
        obtain ⟨x, rfl⟩ := a5
        refine ⟨.string x, rfl, ?_, by rw [hu]; exact ⟨f + 1, by simp only [TyC, hu]; exact ⟨x, rfl⟩⟩⟩
        unfold Cell.ok at hokv
        rw [hu] at hokv
        split at hokv <;> simp_all [Value.cells, renL, ren]
      · rename_i e hu
        rw [hu] at hokv
        simp only [Cell.okWide, hu] at hokv
        cases f with
        | zero => exact a5.elim
        | succ f =>
        have a5' := a5
        simp only [TyC, hu] at a5
        obtain ⟨id, len, cap, nl, es, rfl, _⟩ := a5
        refine ⟨.slice (some ⟨id, 0, none⟩) len cap, by simpa [blwL] using a3, ?_, by rw [hu]; exact ⟨f + 1, a5'⟩⟩
        unfold Cell.ok at hokv
        rw [hu] at hokv
        simp only [renL] at a4
        split at hokv
        all_goals first
          | exact hokv.elim
          | (simp only [Value.cells, List.cons.injEq, and_true] at a4; exact a4)
          | simp_all
      · rename_i fs hu
        rw [hu] at hokv
        obtain ⟨c0, rfl, _⟩ := hokv
        rw [hu]
        refine ⟨.agg ⟨cs⟩, by simpa [blw] using a3, ?_, f, cs, rfl, a5⟩
        simp only [Value.cells] at a4
        simp only [ren, a4]
      · cases hpt
    obtain ⟨a, k1, k2, k3⟩ := key
    refine ⟨β2, n2, m2, a :: as, a1.trans b1, b2, ?_, ?_, by simp [b5], fun j t' a' hj ha => ?_⟩
    · have : blwL (D0 n1) [a] = true := by simp [blwL, k1]
      have := b1.blw this
      simp only [blwL, Bool.and_true] at this
      simp [blwL, this, b3]
    · have : blwL (D0 n1) [a] = true := by simp [blwL, k1]
      have := b1.ren this
      simp only [renL, List.cons.injEq, and_true] at this
      simp [renL, this, k2, b4]
    · cases j with
      | zero =>
        simp only [List.getElem?_cons_zero, Option.some.injEq] at hj ha
        subst hj; subst ha
        exact k3.more b1.same hlt
      | succ j => exact b6 j t' a' (by simpa using hj) (by simpa using ha)
end
end Go.Ab
