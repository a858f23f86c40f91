/- What an abstract memory says of a real one; the operations that at most read. -/
import Derived.Test.YtiomjekkmjinbaaAb4
import Derived.Laws.StructEq
import Derived.Laws.World
namespace Go.Ab
open Go

def renT (β : Beta) : Target → Target
  | .fn f ⟨c⟩ => .fn (renFn β f) ⟨renL β c⟩
  | .collected r => .collected (β r).blk
  | t => t
def renD (β : Beta) (d : Deferred) : Deferred := { target := renT β d.target, args := ⟨renL β d.args.toList⟩ }
def blwT (n : Dm) : Target → Bool
  | .fn f ⟨c⟩ => blwFn n f && blwL n c
  | .collected r => n.has r
  | _ => false
def blwD (n : Dm) (d : Deferred) : Bool := blwT n d.target && blwL n d.args.toList

/-- What the real memory holds where an abstract block lies. -/
def ObjR (β : Beta) (n : Dm) (w : World) (l : Loc) : AObj → Prop
  | .cells none elem esz cs => l.nil = false ∧ blwL n cs = true ∧ ∃ c, w.heap[l.blk]? = some (.cells c elem (0, 0)) ∧
      (∀ i v, cs[i]? = some v → c[i + l.sh]? = some (ren β v)) ∧ l.sh + cs.length + l.ex * esz ≤ c.size
  | .cells (some nl) _ _ cs => (l.nil && l.odd.isNone) = nl ∧ l.ex = 0 ∧ blwL n cs = true ∧ (l.nil = true → cs = []) ∧
      (l.nil = false → ∃ c el fz, w.heap[l.blk]? = some (.cells c el fz) ∧ ∀ i v, cs[i]? = some v → c[i + l.sh]? = some (ren β v))
  | .map es clk => l.nil = false ∧ (∀ e ∈ es, blw n e.1 = true ∧ blw n e.2 = true) ∧ (es.map (·.1)).Nodup ∧
      ∃ es' : Array MapEntry, w.heap[l.blk]? = some (.map es' clk) ∧ (es'.toList.map fun e => (e.key, e.val)).Perm (es.map fun e => (ren β e.1, ren β e.2)) ∧
        (∀ e ∈ es'.toList, e.born < clk) ∧ (es'.toList.map (·.born)).Nodup
  | .iter mo since left cur => l.nil = false ∧ l.sh = 0 ∧ ∃ seen stepped, w.heap[l.blk]? = some (.mapIter (mo.map fun i => (β i).blk) since seen stepped) ∧
      ∀ mp, mo = some mp → (n.has mp = true ∧ (β mp).blk < w.heap.size) ∧ ∀ es' clk', w.heap[(β mp).blk]? = some (.map es' clk') → since ≤ clk' ∧ (clk' = since →
        (∀ e ∈ es'.toList, seen.contains e.born = false ↔ e.key ∈ left) ∧ (seen.isEmpty = false → stepped = since) ∧
        (∀ k, cur = some k → ∃ st, seen.back? = some st ∧ ∀ e ∈ es'.toList, e.born = st ↔ e.key = k))
  | .loop st pend fn nt slots params assign body ds => l.nil = false ∧ n.has ds = true ∧ (∀ t v, lk slots t = some v → blw n v = true) ∧ ∃ tmps : Array Value,
      w.heap[l.blk]? = some (.loop { state := st, pending := pend, fn := fn, tmps := tmps, params := params.toArray, assign := assign, body := body, defers := (β ds).blk }) ∧
      tmps.size = nt ∧ ∀ t v, lk slots t = some v → tmps[t]? = some (ren β v)
  | .deferred none => l.nil = false ∧ w.heap[l.blk]? = some (.deferred none)
  | .deferred (some ds) => l.nil = false ∧ ds.all (blwD n) = true ∧ w.heap[l.blk]? = some (.deferred (some (ds.map (renD β))))

/-- May the block be written? -/
def own : AObj → Bool
  | .cells (some _) _ _ _ => false
  | _ => true

structure RelM (β : Beta) (n : Dm) (m : Mem) (w : World) : Prop where
  hol : ∀ i, n.H i = true → i < n.n
  obj : ∀ i o, m.get i = some o → n.has i = true ∧ ObjR β n w (β i) o
  dis : ∀ i j oi oj, i ≠ j → m.get i = some oi → m.get j = some oj → own oi = true → (β j).nil = false → (β i).blk ≠ (β j).blk

/-- What a step leaves: later blocks, the same readings, nothing else turned. -/
structure Ex (β : Beta) (n : Dm) (m : Mem) (w : World) (β' : Beta) (n' : Dm) (m' : Mem) (w' : World) : Prop where
  le : n.le n'
  agree : ∀ i, n.has i = true → β' i = β i
  rel : RelM β' n' m' w'
  os : w'.os = w.os
  tape : w'.tape = w.tape
  output : w'.output = w.output
  size : w.heap.size ≤ w'.heap.size
  keep : ∀ b, b < w.heap.size → (∀ i o, m.get i = some o → own o = true → (β i).blk ≠ b) → w'.heap[b]? = w.heap[b]?
  from' : ∀ i o, m'.get i = some o → own o = true → w.heap.size ≤ (β' i).blk ∨ ∃ j oj, m.get j = some oj ∧ own oj = true ∧ (β j).blk = (β' i).blk
  ros : ∀ i o, m'.get i = some o → own o = false → m.get i = some o

theorem Ex.refl {β : Beta} {n : Dm} {m : Mem} {w : World} (h : RelM β n m w) : Ex β n m w β n m w :=
  ⟨Dm.le_refl _, fun _ _ => rfl, h, rfl, rfl, rfl, Nat.le_refl _, fun _ _ _ => rfl, fun i o hi ho => .inr ⟨i, o, hi, ho, rfl⟩, fun _ _ h _ => h⟩

theorem Ex.trans {β β₁ β₂ : Beta} {n n₁ n₂ : Dm} {m m₁ m₂ : Mem} {w w₁ w₂ : World} (h : Ex β n m w β₁ n₁ m₁ w₁) (k : Ex β₁ n₁ m₁ w₁ β₂ n₂ m₂ w₂) :
    Ex β n m w β₂ n₂ m₂ w₂ where
  le := Dm.le_trans h.le k.le
  agree i hi := (k.agree i (h.le i hi)).trans (h.agree i hi)
  rel := k.rel
  os := k.os.trans h.os
  tape := k.tape.trans h.tape
  output := k.output.trans h.output
  size := Nat.le_trans h.size k.size
  keep b hb hf := by
    rw [k.keep b (Nat.lt_of_lt_of_le hb h.size) ?_, h.keep b hb hf]
    intro i o hi ho e
    rcases h.from' i o hi ho with hn | ⟨j, oj, hj, hoj, he⟩
    · omega
    · exact hf j oj hj hoj (he.trans e)
  from' i o hi ho := by
    rcases k.from' i o hi ho with hn | ⟨j, oj, hj, hoj, he⟩
    · exact .inl (Nat.le_trans h.size hn)
    · rcases h.from' j oj hj hoj with hn | ⟨j', oj', hj', hoj', he'⟩
      · left; rw [← he]; exact hn
      · exact .inr ⟨j', oj', hj', hoj', he'.trans he⟩
  ros i o hi ho := h.ros i o (k.ros i o hi ho) ho

/-- The blocks that an object's reading looks at: its own, and the map's of an iterator. -/
theorem ObjR.world {β : Beta} {n : Dm} {w w' : World} {l : Loc} {o : AObj} (h : ObjR β n w l o) (hs : w.heap.size ≤ w'.heap.size) (hl : l.nil = false → w'.heap[l.blk]? = w.heap[l.blk]?)
    (hi : ∀ mp since left cur, o = .iter (some mp) since left cur → w'.heap[(β mp).blk]? = w.heap[(β mp).blk]?) : ObjR β n w' l o := by
  cases o with
  | cells ro elem esz cs =>
    cases ro with
    | none =>
      simp only [ObjR] at h ⊢
      rw [hl h.1]; exact h
    | some nl =>
      simp only [ObjR] at h ⊢
      refine ⟨h.1, h.2.1, h.2.2.1, h.2.2.2.1, fun e => ?_⟩
      rw [hl e]; exact h.2.2.2.2 e
  | map es clk => simp only [ObjR] at h ⊢; rw [hl h.1]; exact h
  | iter mo since left cur =>
    simp only [ObjR] at h ⊢
    rw [hl h.1]
    obtain ⟨h1, h0, seen, stepped, h2, h3⟩ := h
    refine ⟨h1, h0, seen, stepped, h2, fun mp e => ?_⟩
    subst e
    rw [hi mp since left cur rfl]
    exact ⟨⟨(h3 mp rfl).1.1, Nat.lt_of_lt_of_le (h3 mp rfl).1.2 hs⟩, (h3 mp rfl).2⟩
  | loop st pend fn nt slots params assign body ds => simp only [ObjR] at h ⊢; rw [hl h.1]; exact h
  | deferred ds =>
    cases ds with
    | none => simp only [ObjR] at h ⊢; rw [hl h.1]; exact h
    | some ds => simp only [ObjR] at h ⊢; rw [hl h.1]; exact h

theorem blwT_mono {n k : Dm} (h : n.le k) {t : Target} (ht : blwT n t = true) : blwT k t = true := by
  cases t with
  | fn f c =>
    cases c
    simp only [blwT, Bool.and_eq_true] at ht ⊢
    exact ⟨blwFn_mono h ht.1, blwL_mono h _ ht.2⟩
  | collected r => simp only [blwT] at ht ⊢; exact h _ ht
  | _ => simp [blwT] at ht
theorem blwD_mono {n k : Dm} (h : n.le k) {d : Deferred} (hd : blwD n d = true) : blwD k d = true := by
  simp only [blwD, Bool.and_eq_true] at hd ⊢
  exact ⟨blwT_mono h hd.1, blwL_mono h _ hd.2⟩
theorem renT_agree {β γ : Beta} {n : Dm} (h : ∀ i, n.has i = true → γ i = β i) {t : Target} (ht : blwT n t = true) : renT γ t = renT β t := by
  cases t with
  | fn f c =>
    cases c
    simp only [blwT, Bool.and_eq_true] at ht
    have e : renFn γ f = renFn β f := by
      cases f <;> simp [renFn]
      have := ht.1
      simp only [blwFn] at this
      rw [h _ this]
    simp [renT, e, renL_agree h _ ht.2]
  | collected r => simp only [blwT] at ht; simp [renT, h r ht]
  | _ => rfl
theorem renD_agree {β γ : Beta} {n : Dm} (h : ∀ i, n.has i = true → γ i = β i) {d : Deferred} (hd : blwD n d = true) : renD γ d = renD β d := by
  simp only [blwD, Bool.and_eq_true] at hd
  simp [renD, renT_agree h hd.1, renL_agree h _ hd.2]

theorem blwL_mem {n : Dm} {l : List Value} (h : blwL n l = true) {v : Value} (hv : v ∈ l) : blw n v = true := by
  rw [blwL_eq, List.all_eq_true] at h; exact h v hv
theorem blwL_get {n : Dm} {l : List Value} (h : blwL n l = true) {i : Nat} {v : Value} (hv : l[i]? = some v) : blw n v = true :=
  blwL_mem h (List.mem_of_getElem? hv)

/-- An object's reading under a later naming. -/
theorem ObjR.agree {β γ : Beta} {n k : Dm} {w : World} {l : Loc} {o : AObj} (h : ObjR β n w l o) (hk : n.le k) (ha : ∀ i, n.has i = true → γ i = β i) : ObjR γ k w l o := by
  cases o with
  | cells ro elem esz cs =>
    cases ro with
    | none =>
      obtain ⟨h1, h2, c, h3, h4, h5⟩ := h
      refine ⟨h1, blwL_mono hk _ h2, c, h3, fun i v hv => ?_, h5⟩
      rw [ren_agree ha v (blwL_get h2 hv)]; exact h4 i v hv
    | some nl =>
      obtain ⟨h1, h2, h3, h4, h5⟩ := h
      refine ⟨h1, h2, blwL_mono hk _ h3, h4, fun e => ?_⟩
      obtain ⟨c, el, fz, h6, h7⟩ := h5 e
      refine ⟨c, el, fz, h6, fun i v hv => ?_⟩
      rw [ren_agree ha v (blwL_get h3 hv)]; exact h7 i v hv
  | map es clk =>
    obtain ⟨h1, h2, h3, es', h4, h5, h6⟩ := h
    refine ⟨h1, fun e he => ⟨blw_mono hk _ (h2 e he).1, blw_mono hk _ (h2 e he).2⟩, h3, es', h4, ?_, h6⟩
    have : (es.map fun e => (ren γ e.1, ren γ e.2)) = es.map fun e => (ren β e.1, ren β e.2) :=
      List.map_congr_left fun e he => by rw [ren_agree ha _ (h2 e he).1, ren_agree ha _ (h2 e he).2]
    rw [this]; exact h5
  | iter mo since left cur =>
    obtain ⟨h1, h0, seen, stepped, h2, h3⟩ := h
    cases mo with
    | none => exact ⟨h1, h0, seen, stepped, h2, by simp⟩
    | some mp =>
      have hm := (h3 mp rfl).1.1
      refine ⟨h1, h0, seen, stepped, by simpa [ha mp hm] using h2, fun mp' e => ?_⟩
      cases e
      rw [ha mp hm]
      exact ⟨⟨hk _ hm, (h3 mp rfl).1.2⟩, (h3 mp rfl).2⟩
  | loop st pend fn nt slots params assign body ds =>
    obtain ⟨h1, h2, h3, tmps, h4, h5, h6⟩ := h
    refine ⟨h1, hk _ h2, fun t v hv => blw_mono hk _ (h3 t v hv), tmps, by rw [ha ds h2]; exact h4, h5, fun t v hv => ?_⟩
    rw [ren_agree ha v (h3 t v hv)]; exact h6 t v hv
  | deferred ds =>
    cases ds with
    | none => exact h
    | some ds =>
      obtain ⟨h1, h2, h3⟩ := h
      simp only [List.all_eq_true] at h2
      refine ⟨h1, by simp only [List.all_eq_true]; exact fun d hd => blwD_mono hk (h2 d hd), ?_⟩
      rw [List.map_congr_left fun d hd => renD_agree ha (h2 d hd)]
      exact h3

section
variable {P : Program} {β : Beta} {n : Dm} {m : Mem} {w : World} {sl : Slots} {ρ : Operand → Value}

/-- The operands' values, as the abstract slots have them. -/
def RelO (β : Beta) (n : Dm) (sl : Slots) (ρ : Operand → Value) : Prop :=
  ∀ x v, evO sl x = some v → ρ x = ren β v ∧ blw n v = true

theorem RelO.evs (h : RelO β n sl ρ) : ∀ {l : List Operand} {vs : List Value}, evs sl l = some vs → l.map ρ = renL β vs ∧ blwL n vs = true
  | [], vs, e => by simp [Ab.evs] at e; subst e; exact ⟨rfl, rfl⟩
  | x :: l, vs, e => by
    simp only [Ab.evs] at e
    split at e
    · rename_i v vs' h1 h2
      simp only [Option.some.injEq] at e
      subst e
      have ⟨a, b⟩ := h x v h1
      have ⟨c, d⟩ := RelO.evs h h2
      exact ⟨by simp [renL, a, c], by simp [blwL, b, d]⟩
    · cases e
theorem RelO.parts (h : RelO β n sl ρ) : ∀ {l : List (Nat × Operand)} {vs : List (Nat × Value)}, evParts sl l = some vs →
    l.map (fun (i, x) => (i, ρ x)) = vs.map (fun (i, v) => (i, ren β v)) ∧ ∀ p ∈ vs, blw n p.2 = true
  | [], vs, e => by simp [evParts] at e; subst e; exact ⟨rfl, by simp⟩
  | (i, x) :: l, vs, e => by
    simp only [evParts] at e
    split at e
    · rename_i v vs' h1 h2
      simp only [Option.some.injEq] at e
      subst e
      have ⟨a, b⟩ := h x v h1
      have ⟨c, d⟩ := RelO.parts h h2
      refine ⟨by simp [a, c], ?_⟩
      intro p hp
      rcases List.mem_cons.1 hp with rfl | hp
      · exact b
      · exact d p hp
    · cases e

theorem run_und {t : TypeId} {d : TypeDesc} (h : P.underlying t = some d) : (underlying t).run P w = .ok d w := by simp [underlying, h]
theorem run_info {t : TypeId} {i : TypeInfo} (h : P.info? t = some i) : (typeInfo t).run P w = .ok i w := by simp [typeInfo, h]
theorem run_sz {t : TypeId} {s : Nat} (h : szOf P t = some s) : (sizeOf t).run P w = .ok s w := by
  simp only [szOf, Option.map_eq_some_iff] at h
  obtain ⟨i, hi, rfl⟩ := h
  simp [sizeOf, typeInfo, hi]
theorem run_zero {t : TypeId} {z : Value} (h : zeroOf P t = some z) : (zeroValue t).run P w = .ok z w ∧ blw Dm.none z = true := by
  simp only [zeroOf] at h
  split at h
  · rename_i z' hz
    split at h
    · rename_i hb
      simp only [Option.some.injEq] at h
      subst h
      simp only [Option.bind_eq_some_iff] at hz
      obtain ⟨i, hi, hz⟩ := hz
      exact ⟨by simp [zeroValue, typeInfo, hi, hz], hb⟩
    · cases h
  · cases h
theorem run_agg {t : TypeId} {b : Bool} (h : aggT P t = some b) : (isAgg t).run P w = .ok b w := by
  simp only [aggT] at h
  split at h
  · rename_i fs e; simp only [Option.some.injEq] at h; subst h; simp [isAgg, underlying, e]
  · rename_i a b' e; simp only [Option.some.injEq] at h; subst h; simp [isAgg, underlying, e]
  · rename_i d h1 h2 e
    simp only [Option.some.injEq] at h
    subst h
    simp only [isAgg, Sem.run_bind, run_und e, Result.andThen_ok]
    cases d <;> simp_all
  · cases h

theorem cell_of (hm : RelM β n m w) {i : Nat} {cs : List Value} (hc : cellsOf m i = some cs) {k : Nat} {v : Value} (hv : cs[k]? = some v) :
    w.cell? ⟨(β i).blk, k + (β i).sh, none⟩ = some (ren β v) ∧ blw n v = true ∧ (β i).nil = false := by
  unfold cellsOf at hc
  split at hc
  · rename_i ro el esz cs' hg
    simp only [Option.some.injEq] at hc
    subst hc
    have ⟨_, ho⟩ := hm.obj i _ hg
    cases ro with
    | none =>
      obtain ⟨h1, h2, c, h3, h4, _⟩ := ho
      refine ⟨?_, blwL_get h2 hv, h1⟩
      simp [World.cell?, h3, h4 k v hv]
    | some nl =>
      obtain ⟨h1, _, h2, h3, h4⟩ := ho
      cases hn : (β i).nil with
      | true => simp [h3 hn] at hv
      | false =>
        obtain ⟨c, el, fz, h5, h6⟩ := h4 hn
        refine ⟨?_, blwL_get h2 hv, rfl⟩
        simp [World.cell?, h5, h6 k v hv]
  · cases hc

theorem addr_add (b o k : Nat) : (⟨b, o, none⟩ : Addr).add k = ⟨b, o + k, none⟩ := by
  unfold Addr.add
  split
  · rename_i h; simp [h]
  · rfl

theorem run_loadCellsFrom' (a : Addr) : ∀ (vs : List Value) (i : Nat) (acc : Array Value), (∀ k v, vs[k]? = some v → w.cell? (a.add (i + k)) = some v) →
    (loadCellsFrom a i vs.length acc).run P w = .ok (acc ++ vs.toArray) w := by
  intro vs
  induction vs with
  | nil => intro i acc _; simp [loadCellsFrom]
  | cons v vs ih =>
    intro i acc h
    have h0 := h 0 v rfl
    simp only [List.length_cons, loadCellsFrom, Sem.run_bind, run_load]
    simp only [Nat.add_zero] at h0
    simp only [h0, Result.andThen_ok]
    rw [ih (i + 1) (acc.push v) (fun k u hk => by have := h (k + 1) u (by simpa using hk); rwa [show i + (k + 1) = i + 1 + k from by omega] at this)]
    simp
theorem run_loadCells' (a : Addr) (vs : List Value) (h : ∀ k v, vs[k]? = some v → w.cell? (a.add k) = some v) :
    (loadCells a vs.length).run P w = .ok vs.toArray w := by
  unfold loadCells
  rw [run_loadCellsFrom' a vs 0 #[] (fun k v hk => by simpa using h k v hk)]
  simp

theorem takeAt_spec {cs l : List Value} {off k : Nat} (h : takeAt cs off k = some l) : l.length = k ∧ (∀ j v, l[j]? = some v → cs[off + j]? = some v) ∧ off + k ≤ cs.length := by
  unfold takeAt at h
  split at h
  · rename_i hl
    simp only [Option.some.injEq] at h
    subst h
    refine ⟨by simp; omega, fun j v hv => ?_, hl⟩
    rw [List.getElem?_take] at hv
    split at hv
    · rwa [List.getElem?_drop] at hv
    · cases hv
  · cases h

theorem loadA_sound (hm : RelM β n m w) {t : TypeId} {x v : Value} (h : loadA P m t x = some v) :
    (Instr.loadAt t (ren β x)).run P w = .ok (ren β v) w ∧ blw n v = true := by
  unfold loadA at h
  split at h
  · rename_i i off
    split at h
    · rename_i cs ha hc
      split at h
      · rename_i sz hs
        split at h
        · rename_i l hl
          simp only [Option.some.injEq] at h
          subst h
          obtain ⟨h1, h2, _⟩ := takeAt_spec hl
          have hb : blwL n l = true := by
            rw [blwL_eq, List.all_eq_true]
            intro v hv
            obtain ⟨j, hj⟩ := List.mem_iff_getElem?.1 hv
            exact (cell_of hm hc (h2 j v hj)).2.1
          refine ⟨?_, by simpa [blw] using hb⟩
          have hlc : (loadCells ⟨(β i).blk, off + (β i).sh, none⟩ sz).run P w = .ok (renL β l).toArray w := by
            have e : sz = (renL β l).length := by rw [renL_eq]; simp [h1]
            rw [e]
            refine run_loadCells' _ _ fun k u hk => ?_
            rw [renL_eq, List.getElem?_map, Option.map_eq_some_iff] at hk
            obtain ⟨u', hk, rfl⟩ := hk
            rw [addr_add]
            have := (cell_of hm hc (h2 k u' hk)).1
            rw [← this]; congr 2; omega
          simp only [Instr.loadAt, Instr.sureAddr, ren, renPtr, loadVar, Sem.run_bind, Sem.run_pure, Result.andThen_ok, run_agg ha, if_true, run_sz hs, hlc]
        · cases h
      · cases h
    · rename_i cs ha hc
      have := cell_of hm hc h
      refine ⟨?_, this.2.1⟩
      simp only [Instr.loadAt, Instr.sureAddr, ren, renPtr, loadVar, Sem.run_bind, Sem.run_pure, Result.andThen_ok, run_agg ha, Bool.false_eq_true, if_false, run_load, this.1]
    · cases h
  · cases h

theorem partA_sound {t : TypeId} {cs : List Value} {off : Nat} {v : Value} (hb : blwL n cs = true) (h : partA P t cs off = some v) :
    (part t (renL β cs).toArray off).run P w = .ok (ren β v) w ∧ blw n v = true := by
  unfold partA at h
  split at h
  · rename_i ha
    split at h
    · rename_i sz hs
      simp only [Option.some.injEq] at h
      subst h
      refine ⟨?_, ?_⟩
      · simp only [part, Sem.run_bind, run_agg ha, Result.andThen_ok, if_true, run_sz hs, Sem.run_pure, ren, renL_eq]
        congr 2
        simp [List.map_take, List.map_drop, Nat.add_sub_cancel_left]
      · simp only [blw, blwL_eq, List.all_eq_true] at hb ⊢
        exact fun u hu => hb u (List.mem_of_mem_drop (List.mem_of_mem_take hu))
    · cases h
  · rename_i ha
    refine ⟨?_, blwL_get hb h⟩
    have : (renL β cs).toArray[off]? = some (ren β v) := by rw [renL_eq]; simp [h]
    simp only [part, Sem.run_bind, run_agg ha, Result.andThen_ok, Bool.false_eq_true, if_false, this, Sem.run_pure]
  · cases h
end
end Go.Ab
