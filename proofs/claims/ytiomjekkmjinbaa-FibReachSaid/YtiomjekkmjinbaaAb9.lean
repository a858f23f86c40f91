/- The operations that write or make memory: sound. -/
import Derived.Test.YtiomjekkmjinbaaAb8
import Derived.Laws.CopyRow
namespace Go.Ab
open Go

section
variable {P : Program} {β : Beta} {n : Dm} {m : Mem} {w : World} {sl : Slots} {ρ : Operand → Value}

/-- The block of an object that is there. -/
theorem ObjR.lt {l : Loc} {o : AObj} (h : ObjR β n w l o) (hn : l.nil = false) : l.blk < w.heap.size := by
  have key : ∀ x, w.heap[l.blk]? = some x → l.blk < w.heap.size := fun x hx => (Array.getElem?_eq_some_iff.1 hx).1
  cases o with
  | cells ro elem esz cs =>
    cases ro with
    | none => obtain ⟨_, _, c, h3, _⟩ := h; exact key _ h3
    | some nl =>
      obtain ⟨h1, _, _, _, h5⟩ := h
      obtain ⟨c, el, fz, h6, _⟩ := h5 hn
      exact key _ h6
  | map es clk => obtain ⟨_, _, _, es', h4, _⟩ := h; exact key _ h4
  | iter mo since left cur => obtain ⟨_, _, seen, stepped, h2, _⟩ := h; exact key _ h2
  | loop st pend fn nt slots params assign body ds => obtain ⟨_, _, _, tmps, h4, _⟩ := h; exact key _ h4
  | deferred ds =>
    cases ds with
    | none => exact key _ h.2
    | some ds => exact key _ h.2.2
theorem ObjR.own_nil {l : Loc} {o : AObj} (h : ObjR β n w l o) (ho : own o = true) : l.nil = false := by
  cases o with
  | cells ro elem esz cs =>
    cases ro with
    | none => exact h.1
    | some nl => simp [own] at ho
  | map es clk => exact h.1
  | iter mo since left cur => exact h.1
  | loop st pend fn nt slots params assign body ds => exact h.1
  | deferred ds => cases ds with
    | none => exact h.1
    | some ds => exact h.1

/-- A step that turns or makes one object. -/
theorem Ex.one (hm : RelM β n m w) {β' : Beta} {n' : Dm} {m' : Mem} {w' : World} (s : Nat) (T : Nat → Prop)
    (le : n.le n') (hol : ∀ i, n'.H i = true → i < n'.n) (agree : ∀ i, n.has i = true → β' i = β i) (os : w'.os = w.os) (tape : w'.tape = w.tape) (output : w'.output = w.output) (size : w.heap.size ≤ w'.heap.size)
    (hT : ∀ b, b < w.heap.size → ¬ T b → w'.heap[b]? = w.heap[b]?) (hTo : ∀ b, T b → ∃ i o, m.get i = some o ∧ own o = true ∧ (β i).blk = b)
    (hold : ∀ j o, j ≠ s → m'.get j = some o → m.get j = some o ∧ ((β j).nil = false → ¬ T (β j).blk))
    (hiter : ∀ j mp since left cur, j ≠ s → m'.get j = some (.iter (some mp) since left cur) → T (β mp).blk → ObjR β n w (β j) (.iter (some mp) since left cur) → ObjR β n w' (β j) (.iter (some mp) since left cur))
    (hnew : ∀ o, m'.get s = some o → n'.has s = true ∧ ObjR β' n' w' (β' s) o ∧ (own o = true → w.heap.size ≤ (β' s).blk ∨ T (β' s).blk) ∧ own o = true) :
    Ex β n m w β' n' m' w' := by
  have old : ∀ j o, j ≠ s → m'.get j = some o → n.has j = true ∧ ObjR β n w (β j) o ∧ m.get j = some o ∧ ((β j).nil = false → ¬ T (β j).blk) := fun j o hj ho =>
    have ⟨h1, h2⟩ := hold j o hj ho
    have ⟨h3, h4⟩ := hm.obj j o h1
    ⟨h3, h4, h1, h2⟩
  refine ⟨le, agree, ⟨hol, fun j o ho => ?_, fun i j oi oj hij hi hj hoi hnj => ?_⟩, os, tape, output, size, fun b hb hf => ?_, fun i o hi ho => ?_, fun i o hi ho => ?_⟩
  · by_cases hj : j = s
    · subst hj; exact ⟨(hnew o ho).1, (hnew o ho).2.1⟩
    · obtain ⟨h1, h2, h3, h4⟩ := old j o hj ho
      refine ⟨le _ h1, ?_⟩
      rw [agree j h1]
      by_cases hq : ∃ mp since left cur, o = .iter (some mp) since left cur ∧ T (β mp).blk
      · obtain ⟨mp, since, left, cur, rfl, ht⟩ := hq
        exact (hiter j mp since left cur hj ho ht h2).agree le agree
      · refine (h2.world size (fun hn => hT _ (h2.lt hn) (h4 hn)) (fun mp since left cur e => ?_)).agree le agree
        subst e
        have hlt : (β mp).blk < w.heap.size := by
          obtain ⟨_, _, _, _, _, h6⟩ := h2
          exact (h6 mp rfl).1.2
        exact hT _ hlt (fun ht => hq ⟨mp, since, left, cur, rfl, ht⟩)
  · by_cases hi' : i = s
    · subst hi'
      have hjs : j ≠ i := fun e => hij e.symm
      obtain ⟨h1, h2, h3, h4⟩ := old j oj hjs hj
      rw [agree j h1] at hnj ⊢
      rcases (hnew oi hi).2.2.1 hoi with h5 | h5
      · have := h2.lt hnj; omega
      · intro e; exact h4 hnj (e ▸ h5)
    · obtain ⟨h1, h2, h3, h4⟩ := old i oi hi' hi
      rw [agree i h1]
      have hni := h2.own_nil hoi
      by_cases hj' : j = s
      · subst hj'
        rcases (hnew oj hj).2.2.1 (hnew oj hj).2.2.2 with h5 | h5
        · have := h2.lt hni; omega
        · intro e; exact h4 hni (e ▸ h5)
      · obtain ⟨h1', h2', h3', h4'⟩ := old j oj hj' hj
        rw [agree j h1'] at hnj ⊢
        exact hm.dis i j oi oj hij h3 h3' hoi hnj
  · exact hT b hb fun ht => by
      obtain ⟨i, o, h1, h2, h3⟩ := hTo b ht
      exact hf i o h1 h2 h3
  · by_cases hi' : i = s
    · subst hi'
      rcases (hnew o hi).2.2.1 ho with h5 | h5
      · exact .inl h5
      · obtain ⟨j, oj, h1, h2, h3⟩ := hTo _ h5
        exact .inr ⟨j, oj, h1, h2, h3⟩
    · obtain ⟨h1, h2, h3, h4⟩ := old i o hi' hi
      exact .inr ⟨i, o, h3, ho, by rw [agree i h1]⟩
  · by_cases hi' : i = s
    · subst hi'
      have := (hnew o hi).2.2.2
      rw [ho] at this; cases this
    · exact (hold i o hi' hi).1

def upd (β : Beta) (i : Nat) (l : Loc) : Beta := fun j => if j = i then l else β j
theorem upd_self (β : Beta) (i : Nat) (l : Loc) : upd β i l i = l := by simp [upd]
theorem upd_ne (β : Beta) (l : Loc) {i j : Nat} (h : j ≠ i) : upd β i l j = β j := by simp [upd, h]
theorem upd_fr (β : Beta) (l : Loc) {n : Dm} {i j : Nat} (hi : n.has i = false) (h : n.has j = true) : upd β i l j = β j :=
  upd_ne β l fun e => by rw [e, hi] at h; cases h
/-- The next number names nothing yet. -/
theorem has_n (n : Dm) : n.has n.n = false := by simp [Dm.has]
theorem hol_up {n : Dm} (h : ∀ i, n.H i = true → i < n.n) {k : Nat} (hk : n.n ≤ k) : ∀ i, (n.up k).H i = true → i < (n.up k).n := fun i hi => Nat.lt_of_lt_of_le (h i hi) hk
theorem has_up {n : Dm} (h : ∀ i, n.H i = true → i < n.n) : (n.up (n.n + 1)).has n.n = true := by
  rw [Dm.has_iff]
  refine ⟨Nat.lt_succ_self _, ?_⟩
  cases hh : n.H n.n with
  | false => exact hh
  | true => exact absurd (h _ hh) (Nat.lt_irrefl _)

/-- A new object in a new block, named by any later number. -/
theorem Ex.new' (hm : RelM β n m w) {w' : World} (ob : Obj) {o : AObj} {s : Nat} {n' : Dm} (hs : n.has s = false) (hle : n.le n') (hol : ∀ i, n'.H i = true → i < n'.n) (hn' : n'.has s = true) (l : Loc) (hl : l.blk = w.heap.size) (_hln : l.nil = false) (hown : own o = true)
    (hw : w'.heap = w.heap.push ob) (os : w'.os = w.os) (tape : w'.tape = w.tape) (output : w'.output = w.output)
    (ho : ObjR (upd β s l) n' w' l o) : Ex β n m w (upd β s l) n' (m.set s o) w' := by
  refine Ex.one hm s (fun _ => False) hle hol (fun i hi => upd_fr β l hs hi) os tape output (by rw [hw]; simp) (fun b hb _ => ?_) (by simp) (fun j oj hj hg => ?_)
    (by simp) (fun o' ho' => ?_)
  · rw [hw, Array.getElem?_push, if_neg (by omega)]
  · rw [Tr.get_set, if_neg (Ne.symm hj)] at hg; exact ⟨hg, by simp⟩
  · rw [Tr.get_set, if_pos rfl] at ho'
    simp only [Option.some.injEq] at ho'; subst ho'
    rw [upd_self]
    exact ⟨hn', ho, fun _ => .inl (by omega), hown⟩

/-- The cells of a block of the call's own are turned. -/
theorem Ex.write (hm : RelM β n m w) {i : Nat} {elem : TypeId} {esz : Nat} {cs cs' : List Value} (hg : m.get i = some (.cells none elem esz cs)) {w' : World} {c' : Array Value}
    (hself : w'.heap[(β i).blk]? = some (.cells c' elem (0, 0))) (hbk : ∀ b, b ≠ (β i).blk → w'.heap[b]? = w.heap[b]?) (hsize : w'.heap.size = w.heap.size)
    (os : w'.os = w.os) (tape : w'.tape = w.tape) (output : w'.output = w.output)
    (hlen : cs'.length = cs.length) (hb : blwL n cs' = true) (hc : ∀ k v, cs'[k]? = some v → c'[k + (β i).sh]? = some (ren β v))
    (hsz : (β i).sh + cs.length + (β i).ex * esz ≤ c'.size) : Ex β n m w β n (m.set i (.cells none elem esz cs')) w' := by
  obtain ⟨hin, hn, hb0, c, hh, hc0, hsz0⟩ := hm.obj i _ hg
  have hlt : (β i).blk < w.heap.size := (Array.getElem?_eq_some_iff.1 hh).1
  refine Ex.one hm i (fun b => b = (β i).blk) (Dm.le_refl _) hm.hol (fun _ _ => rfl) os tape output (by omega) (fun b _ hb => hbk b hb) (fun b hb => ⟨i, _, hg, rfl, hb.symm⟩)
    (fun j o hj ho => ?_) (fun j mp since left cur hj hgj ht hr => ?_) (fun o ho => ?_)
  · rw [Tr.get_set, if_neg (Ne.symm hj)] at ho
    exact ⟨ho, fun hnj e => hm.dis i j _ o (Ne.symm hj) hg ho rfl hnj e.symm⟩
  · obtain ⟨h1, h2, seen, stepped, h3, h4⟩ := hr
    rw [Tr.get_set, if_neg (Ne.symm hj)] at hgj
    have hne : (β j).blk ≠ (β i).blk := hm.dis j i _ _ hj hgj hg rfl hn
    refine ⟨h1, h2, seen, stepped, by rw [hbk _ hne]; exact h3, fun mp' e => ?_⟩
    cases e
    refine ⟨⟨(h4 mp rfl).1.1, by rw [hsize]; exact (h4 mp rfl).1.2⟩, fun es' clk' hes => ?_⟩
    have : (β mp).blk = (β i).blk := ht
    rw [this, hself] at hes
    cases hes
  · rw [Tr.get_set, if_pos rfl] at ho
    simp only [Option.some.injEq] at ho; subst ho
    exact ⟨hin, ⟨hn, hb, c', hself, hc, by rw [hlen]; exact hsz⟩, fun _ => .inr rfl, rfl⟩

theorem storeCs_sound (hm : RelM β n m w) {i off : Nat} {vs : List Value} {m' : Mem} (hb : blwL n vs = true) (h : storeCs m i off vs = some m') :
    ∃ w', (storeCells ⟨(β i).blk, off + (β i).sh, none⟩ (renL β vs)).run P w = .ok () w' ∧ Ex β n m w β n m' w' ∧ (β i).nil = false := by
  unfold storeCs at h
  split at h
  · rename_i elem esz cs hg
    split at h
    · rename_i hc
      simp only [Option.some.injEq] at h; subst h
      obtain ⟨hin, hn, hb0, c, hh, hc0, hsz0⟩ := hm.obj i _ hg
      have hlt : (β i).blk < w.heap.size := (Array.getElem?_eq_some_iff.1 hh).1
      have hall : ∀ v ∈ renL β vs, v.oneCell' = true := by
        intro v hv
        rw [renL_eq] at hv
        obtain ⟨u, hu, rfl⟩ := List.mem_map.1 hv
        exact ren_oneCell β (List.all_eq_true.1 hc.2 u hu)
      have hl : (renL β vs).length = vs.length := by rw [renL_eq]; simp
      have hrun := run_storeCells_at P (β i).blk (off + (β i).sh) elem (renL β vs) 0 c w hh (by rw [hl]; omega) hall
      refine ⟨_, hrun, ?_, hn⟩
      refine Ex.write hm hg (setRow_heap w _ c _ elem _ hh) (fun b hb => setRow_other w _ b _ hb) (setRow_size w _ _) rfl rfl rfl ?_ ?_ ?_ ?_
      · simp; omega
      · simp only [blwL_eq, List.all_append, Bool.and_eq_true, List.all_eq_true] at hb hb0 ⊢
        exact ⟨fun x hx => hb0 x (List.mem_of_mem_take hx), hb, fun x hx => hb0 x (List.mem_of_mem_drop hx)⟩
      · intro k v hk
        simp only [List.getElem?_toArray, List.append_assoc]
        have hlt1 : (c.toList.take (off + (β i).sh + 0)).length = off + (β i).sh := by simp; omega
        have hlt2 : (cs.take off).length = off := by simp; omega
        by_cases h1 : k < off
        · rw [List.getElem?_append_left (by omega)] at hk ⊢
          rw [List.getElem?_take, if_pos (by omega)] at hk ⊢
          have := hc0 k v hk
          simpa using this
        · rw [List.getElem?_append_right (by omega)] at hk ⊢
          rw [show k + (β i).sh - (c.toList.take (off + (β i).sh + 0)).length = k - off from by omega]
          rw [show k - (cs.take off).length = k - off from by omega] at hk
          by_cases h2 : k - off < vs.length
          · rw [List.getElem?_append_left (by omega)] at hk ⊢
            rw [renL_eq, List.getElem?_map, hk]; rfl
          · rw [List.getElem?_append_right (by omega)] at hk ⊢
            rw [List.getElem?_drop] at hk ⊢
            rw [hl, show off + (β i).sh + 0 + vs.length + (k - off - vs.length) = k + (β i).sh from by omega]
            rw [show off + vs.length + (k - off - vs.length) = k from by omega] at hk
            have := hc0 k v hk
            simpa using this
      · simp [hl]; omega
    · cases h
  · cases h

/-- The object that a new block holds. -/
theorem ObjR.fresh {w' : World} {elem : TypeId} {esz : Nat} {cs : List Value} {c : Array Value} {k : Dm} {ex : Nat} {β' : Beta} {b : Nat} (hh : w'.heap[b]? = some (.cells c elem (0, 0))) (hb : blwL k cs = true)
    (hc : ∀ (i : Nat) (v : Value), cs[i]? = some v → c[i]? = some (ren β' v)) (hs : cs.length + ex * esz ≤ c.size) : ObjR β' k w' ⟨b, 0, ex, false, none⟩ (.cells none elem esz cs) :=
  ⟨rfl, hb, c, hh, by simpa using hc, by simpa using hs⟩

theorem blwL_mono' {a b : Dm} (h : a.le b) {l : List Value} (hl : blwL a l = true) : blwL b l = true := blwL_mono h l hl

/-- A new row of cells. -/
theorem Ex.newRow (hm : RelM β n m w) {s : Nat} {n' : Dm} (hs : n.has s = false) (hle : n.le n') (hol : ∀ i, n'.H i = true → i < n'.n) (hn' : n'.has s = true) (elem : TypeId) (esz : Nat) (cs : List Value) (hb : blwL n cs = true) :
    Ex β n m w (upd β s ⟨w.heap.size, 0, 0, false, none⟩) n' (m.set s (.cells none elem esz cs)) { w with heap := w.heap.push (.cells (renL β cs).toArray elem) } := by
  refine Ex.new' hm (.cells (renL β cs).toArray elem) hs hle hol hn' _ rfl rfl rfl rfl rfl rfl rfl ?_
  refine ObjR.fresh (c := (renL β cs).toArray) (by simp) (blwL_mono' hle hb) (fun i v hv => ?_) (by simp [renL_eq])
  have e := ren_agree (γ := upd β s ⟨w.heap.size, 0, 0, false, none⟩) (n := n) (β := β) (fun i hi => upd_fr β _ hs hi) v (blwL_get hb hv)
  rw [renL_eq, e]
  simp [hv]

theorem flat_rep (β : Beta) (k : Nat) (z : List Value) : renL β (List.replicate k z).flatten = (List.replicate k (renL β z)).flatten := by
  induction k with
  | zero => rfl
  | succ k ih =>
    simp only [List.replicate_succ, List.flatten_cons]
    rw [renL_eq, List.map_append, ← renL_eq, ← renL_eq, ih]
theorem zeros_eq (z : Array Value) (k : Nat) (hz : 0 < k * z.size → 0 < z.size) : (Array.range (k * z.size)).map (fun i => z[i % z.size]!) = (List.replicate k z.toList).flatten.toArray := by
  apply Array.ext'
  simp only [Array.toList_map, Array.toList_range]
  induction k with
  | zero => simp
  | succ k ih =>
    rw [List.replicate_succ', List.flatten_append, Nat.succ_mul, List.range_add, List.map_append, ih (fun h => Nat.pos_of_ne_zero (by rintro e; simp [e] at h))]
    congr 1
    simp only [List.map_map, List.flatten_cons, List.flatten_nil, List.append_nil]
    apply List.ext_getElem
    · simp
    · intro i h1 h2
      simp only [List.length_map, List.length_range] at h1
      simp only [List.getElem_map, List.getElem_range, Function.comp, Nat.mul_add_mod_self_right, Nat.mod_eq_of_lt h1]
      simp [h1]

theorem evA_sound (hm : RelM β n m w) (hr : RelO β n sl ρ) {o : Oper} {s : Nat} {n' : Dm} (hs : n.has s = false) (hle : n.le n') (hol : ∀ i, n'.H i = true → i < n'.n) (hn' : n'.has s = true) {ob : AObj} {v : Value} (h : evA P sl o s = some (ob, v)) :
    ∃ β' w', (execOp ρ o).run P w = .ok (.value (ren β' v)) w' ∧ Ex β n m w β' n' (m.set s ob) w' ∧ blw n' v = true ∧ β' = upd β s ⟨w.heap.size, 0, 0, false, none⟩ := by
  obtain ⟨dst, op, type, pos, after, guard⟩ := o
  cases op
  case alloc elem =>
    simp only [evA] at h
    split at h
    · rename_i z sz hz hsz
      simp only [Option.some.injEq, Prod.mk.injEq] at h
      obtain ⟨rfl, rfl⟩ := h
      have ⟨hz1, hz2, hz3⟩ := zero_ren (P := P) (β := β) (n := n) (w := w) hz
      refine ⟨_, _, ?_, Ex.newRow hm hs hle hol hn' elem sz _ (blw_cells hz3), by simp [blw, hn'], rfl⟩
      have e := ren_cells β z
      rw [hz2] at e
      simp only [execOp, Instr.alloc, Sem.run_bind, hz1, Result.andThen_ok, newVar, Go.newRow, run_newObj, Sem.run_pure, ren, renPtr, upd_self, renL_eq]
      rw [← e]
    · cases h
  case box elem x =>
    simp only [evA] at h
    split at h
    · rename_i u sz hx hsz
      simp only [Option.some.injEq, Prod.mk.injEq] at h
      obtain ⟨rfl, rfl⟩ := h
      have h1 := hr x _ hx
      refine ⟨_, _, ?_, Ex.newRow hm hs hle hol hn' elem sz _ (blw_cells h1.2), by simp [blw, hn'], rfl⟩
      simp only [execOp, Instr.box, Sem.run_bind, Result.andThen_ok, newVar, Go.newRow, run_newObj, Sem.run_pure, ren, renPtr, upd_self, renL_eq, h1.1, ren_cells]
    · cases h
  case buildSlice t len parts =>
    simp only [evA] at h
    split at h
    · rename_i elem ps hu hps
      split at h
      · rename_i sz z hsz hz
        split at h
        · rename_i hc
          split at h
          · rename_i cs hf
            simp only [Option.some.injEq, Prod.mk.injEq] at h
            obtain ⟨rfl, rfl⟩ := h
            have ⟨hz1, hz2, hz3⟩ := zero_ren (P := P) (β := β) (n := n) (w := w) hz
            have ⟨hp1, hp2⟩ := hr.parts hps
            have hbz : blwL n (List.replicate len z.cells.toList).flatten = true := by
              rw [blwL_eq, List.all_eq_true]
              intro x hx
              simp only [List.mem_flatten, List.mem_replicate] at hx
              obtain ⟨l, ⟨_, rfl⟩, hx⟩ := hx
              exact blwL_mem (blw_cells hz3) hx
            have hbc := fillA_blw hf hbz hp2
            refine ⟨_, _, ?_, Ex.newRow hm hs hle hol hn' elem sz cs hbc, by simp [blw, hn'], rfl⟩
            have hfill := fillA_sound (β := β) hf
            have hpa : (parts.map fun (i, x) => (i, ρ x)).toList = ps.map fun (i, v) => (i, ren β v) := by rw [← hp1]; simp
            have hzc : z.cells = (renL β z.cells.toList).toArray := by
              have := ren_cells β z
              rw [hz2] at this
              rw [renL_eq]; exact this
            have hzs : z.cells.size = sz := by simpa using hc.2
            have hzl : renL β z.cells.toList = z.cells.toList := by
              have := congrArg Array.toList hzc
              simpa using this.symm
            by_cases e0 : len * sz = 0
            · have hnil : (List.replicate len z.cells.toList).flatten = [] := by
                refine List.eq_nil_of_length_eq_zero ?_
                simp [hzs]
                rcases Nat.mul_eq_zero.1 e0 with e | e <;> simp [e]
              rw [hnil] at hfill
              simp only [renL] at hfill
              simp only [execOp, Instr.buildSlice, Sem.run_bind, run_und hu, Result.andThen_ok, run_sz hsz, if_neg (show ¬ len * sz > 2 ^ 24 by omega), if_pos e0, Sem.run_pure]
              rw [hpa, show (Array.map (fun x => (#[] : Array Value)[x % (#[] : Array Value).size]!) (Array.range (len * sz))) = #[] by simp [e0], hfill]
              simp [Go.newRow, ren, renSlice, upd_self]
            · have hrow := zeros_eq z.cells len (fun h => Nat.pos_of_ne_zero (by rintro e; simp [e] at h))
              rw [flat_rep, hzl] at hfill
              rw [hzs] at hrow
              simp only [execOp, Instr.buildSlice, Sem.run_bind, run_und hu, Result.andThen_ok, run_sz hsz, if_neg (show ¬ len * sz > 2 ^ 24 by omega), if_neg e0, hz1, Sem.run_pure]
              rw [hpa, hzs, hrow, hfill]
              simp [Go.newRow, ren, renSlice, upd_self]
          · cases h
        · cases h
      · cases h
    · cases h
  case makeSlice t l c =>
    simp only [evA] at h
    split at h
    · rename_i elem kl l' kc c' hu hl hc
      have h1 := hr l _ hl
      have h2 := hr c _ hc
      split at h
      · rename_i info z hi hz
        split at h
        · rename_i hcond
          obtain ⟨c1, c2, c3, c4⟩ := hcond
          simp only [Option.some.injEq, Prod.mk.injEq] at h
          obtain ⟨rfl, rfl⟩ := h
          have ⟨hz1, hz2, hz3⟩ := zero_ren (P := P) (β := β) (n := n) (w := w) hz
          have hbz : blwL n (List.replicate c'.toNat z.cells.toList).flatten = true := by
            rw [blwL_eq, List.all_eq_true]
            intro x hx
            simp only [List.mem_flatten, List.mem_replicate] at hx
            obtain ⟨l, ⟨_, rfl⟩, hx⟩ := hx
            exact blwL_mem (blw_cells hz3) hx
          refine ⟨_, _, ?_, Ex.newRow hm hs hle hol hn' elem info.size _ hbz, by simp [blw, hn'], rfl⟩
          have hzs : z.cells.size = info.size := by simpa using c4
          have hzl : renL β z.cells.toList = z.cells.toList := by
            have := congrArg Array.toList (ren_cells β z)
            rw [hz2] at this
            rw [renL_eq]; simpa using this.symm
          have hc0 : 0 ≤ c' := by omega
          have hbig : c' ≤ 2 ^ 48 := by
            have : c' ≤ (info.bytes + 1) * c' := by
              have := Int.mul_le_mul_of_nonneg_right (show (1 : Int) ≤ (info.bytes : Int) + 1 by omega) hc0
              omega
            omega
          have hbyt : (info.bytes : Int) * c' ≤ 2 ^ 48 := by
            have : (info.bytes : Int) * c' ≤ (info.bytes + 1) * c' := Int.mul_le_mul_of_nonneg_right (by omega) hc0
            omega
          have wrapI : ∀ x : Int, 0 ≤ x → x ≤ 2 ^ 48 → IntKind.i64.wrap x = x := by
            intro x hx hx'
            have e : x % (2 ^ 64 : Int) = x := Int.emod_eq_of_lt hx (by omega)
            unfold IntKind.wrap
            simp only [IntKind.bits, IntKind.signed]
            show (if (true && decide (x % (2 ^ 64 : Int) ≥ (2 ^ (64 - 1) : Int))) = true then _ else _) = _
            rw [e, if_neg]
            simp; omega
          have hsz : (sizeOf elem).run P { w with heap := w.heap } = .ok info.size w := by simp [sizeOf, typeInfo, hi]
          simp only [execOp, Instr.makeSlice, Sem.run_bind, run_und hu, Result.andThen_ok, h1.1, h2.1, ren, asInt, asIntOf, Sem.run_pure, run_info hi, wrapI l' c1 (by omega), wrapI c' hc0 hbig]
          rw [if_neg]
          · by_cases e0 : c'.toNat * info.size = 0
            · have hnil : (List.replicate c'.toNat z.cells.toList).flatten = [] := by
                refine List.eq_nil_of_length_eq_zero ?_
                simpa [hzs] using e0
              simp [hsz, e0, hnil, renL, Go.newRow, renSlice, upd_self, show Array.range 0 = #[] from rfl]
            · have hrow := zeros_eq z.cells c'.toNat (fun h => Nat.pos_of_ne_zero (by rintro e; simp [e] at h))
              rw [hzs] at hrow
              simp [hsz, e0, hz1, hzs, hrow, flat_rep, hzl, Go.newRow, renSlice, upd_self]
          · simp; omega
        · cases h
      · cases h
    · cases h
  case makeMap t r =>
    cases r with
    | some r => simp [evA] at h
    | none =>
      simp only [evA, Option.some.injEq, Prod.mk.injEq] at h
      obtain ⟨rfl, rfl⟩ := h
      refine ⟨_, _, ?_, Ex.new' hm (w' := { w with heap := w.heap.push (.map #[] 0) }) (.map #[] 0) hs hle hol hn' ⟨w.heap.size, 0, 0, false, none⟩ rfl rfl rfl rfl rfl rfl rfl ?_, by simp [blw, hn'], rfl⟩
      · simp [execOp, Instr.makeMap, ren, upd_self]
      · exact ⟨rfl, by simp, by simp, #[], by simp, by simp, by simp, by simp⟩
  case range t x =>
    simp only [evA] at h
    split at h
    · rename_i k e hu hx
      simp only [Option.some.injEq, Prod.mk.injEq] at h
      obtain ⟨rfl, rfl⟩ := h
      have h1 := hr x _ hx
      refine ⟨_, _, ?_, Ex.new' hm (w' := { w with heap := w.heap.push (.mapIter none 0 #[] 0) }) (.mapIter none 0 #[] 0) hs hle hol hn' ⟨w.heap.size, 0, 0, false, none⟩ rfl rfl rfl rfl rfl rfl rfl ?_, by simp [blw, hn'], rfl⟩
      · simp [execOp, Instr.range, run_und hu, h1.1, ren, renPtr, upd_self]
      · exact ⟨rfl, rfl, #[], 0, by simp, by simp⟩
    · cases h
  all_goals simp [evA] at h
end
end Go.Ab
