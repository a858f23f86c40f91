/- Maps and their iterators. -/
import Derived.Test.YtiomjekkmjinbaaAb10
import Derived.Laws.IdiomRangeMap
namespace Go.Ab
open Go

section
variable {P : Program} {β : Beta} {n : Dm} {m : Mem} {w : World} {sl : Slots} {ρ : Operand → Value}

theorem Ex.heapR {β' : Beta} {n' : Dm} {m' : Mem} {w' w2 : World} (h : Ex β n m w β' n' m' w') (h1 : w2.heap = w'.heap) (h2 : w2.os = w'.os) (h3 : w2.tape = w'.tape) (h4 : w2.output = w'.output) :
    Ex β n m w β' n' m' w2 where
  le := h.le
  agree := h.agree
  rel := h.rel.heap h1
  os := h2.trans h.os
  tape := h3.trans h.tape
  output := h4.trans h.output
  size := by rw [h1]; exact h.size
  keep b hb hf := by rw [h1]; exact h.keep b hb hf
  from' := h.from'
  ros := h.ros

/-- An object that is no row of cells and no map is turned. -/
theorem Ex.setO (hm : RelM β n m w) {i : Nat} {o o' : AObj} (hg : m.get i = some o) (hown : own o = true) (hown' : own o' = true) {ob : Obj} (hnm : ∀ es clk, ob ≠ .map es clk)
    (ho' : ObjR β n { w with heap := w.heap.setIfInBounds (β i).blk ob } (β i) o') : Ex β n m w β n (m.set i o') { w with heap := w.heap.setIfInBounds (β i).blk ob } := by
  obtain ⟨hin, ho⟩ := hm.obj i _ hg
  have hn := ho.own_nil hown
  have hlt := ho.lt hn
  have hbk : ∀ b, b ≠ (β i).blk → (w.heap.setIfInBounds (β i).blk ob)[b]? = w.heap[b]? := fun b hb => Array.getElem?_setIfInBounds_ne (Ne.symm hb)
  have hself : (w.heap.setIfInBounds (β i).blk ob)[(β i).blk]? = some ob := by simp [hlt]
  refine Ex.one hm i (fun b => b = (β i).blk) (Dm.le_refl _) hm.hol (fun _ _ => rfl) rfl rfl rfl (by simp) (fun b _ hb => hbk b hb) (fun b hb => ⟨i, _, hg, hown, hb.symm⟩)
    (fun j oj hj hgj => ?_) (fun j mp since left cur hj hgj ht hr => ?_) (fun o2 ho2 => ?_)
  · rw [Tr.get_set, if_neg (Ne.symm hj)] at hgj
    exact ⟨hgj, fun hnj e => hm.dis i j _ oj (Ne.symm hj) hg hgj hown hnj e.symm⟩
  · obtain ⟨h1, h2, seen, stepped, h3, h4⟩ := hr
    rw [Tr.get_set, if_neg (Ne.symm hj)] at hgj
    have hne : (β j).blk ≠ (β i).blk := hm.dis j i _ _ hj hgj hg rfl hn
    refine ⟨h1, h2, seen, stepped, by show (w.heap.setIfInBounds _ _)[_]? = _; rw [hbk _ hne]; exact h3, fun mp' e => ?_⟩
    cases e
    refine ⟨⟨(h4 mp rfl).1.1, by simpa using (h4 mp rfl).1.2⟩, fun es' clk' hes => ?_⟩
    have hb : (β mp).blk = (β i).blk := ht
    have hes : (w.heap.setIfInBounds (β i).blk ob)[(β mp).blk]? = some (.map es' clk') := hes
    rw [hb, hself] at hes
    exact absurd (Option.some.inj hes) (hnm _ _)
  · rw [Tr.get_set, if_pos rfl] at ho2
    simp only [Option.some.injEq] at ho2; subst ho2
    exact ⟨hin, ho', fun _ => .inr rfl, hown'⟩


theorem intKey_of {e : Value × Value} (h : intKey e = true) : ∃ k c, e.1 = .int k c := by
  obtain ⟨a, b⟩ := e
  unfold intKey at h
  split at h
  · rename_i k c x e; cases e; exact ⟨_, _, rfl⟩
  · cases h

/-- 'next' over a map that stands as it stood when the loop began. -/
theorem run_next_at (ty : TypeId) {r bm since c0 clock : Nat} {seen : Array Nat} {es : Array MapEntry} (hr : w.heap[r]? = some (.mapIter (some bm) since seen c0)) (hb : w.heap[bm]? = some (.map es clock))
    (hold : ∀ x ∈ es.toList, x.born < since) (hsc : seen.isEmpty = false → since ≤ c0) :
    ((leftOf es seen).size = 0 ∧ (Instr.next (.pointer (some ⟨r, 0, none⟩)) false ty).run P w = .ok (.tuple #[.bool false]) w) ∨
    ∃ e ∈ (leftOf es seen).toList, ∃ w1 : World, (w1.heap = w.heap ∧ w1.os = w.os ∧ w1.tape = w.tape ∧ w1.output = w.output) ∧
      (Instr.next (.pointer (some ⟨r, 0, none⟩)) false ty).run P w = .ok (.tuple #[.bool true, e.key, e.val]) { w1 with heap := w1.heap.setIfInBounds r (.mapIter (some bm) since (seen.push e.born) clock) } := by
  have htest : (!seen.isEmpty && !es.isEmpty && es.all (fun x => decide (x.born ≥ c0))) = false := by
    cases hs : seen.isEmpty with
    | true => simp
    | false => simpa [hs] using next_test_false seen es since c0 hold (hsc hs)
  have hlt : r < w.heap.size := (Array.getElem?_eq_some_iff.1 hr).1
  simp only [Instr.next, getObj, Sem.run_bind, Sem.run, hr, hb, Result.andThen, htest, Bool.false_eq_true, if_false]
  unfold leftOf
  have hmem : ∀ x ∈ (Array.filter (fun e => !seen.contains e.born) es).toList, x.born < since := fun x hx => hold x (by simp at hx ⊢; exact hx.1)
  generalize Array.filter (fun e => !seen.contains e.born) es = L at hmem ⊢
  have e1 : L.filter (fun x => decide (x.born < since)) = L := Array.filter_eq_self.2 (fun x hx => by simpa using hmem x (by simpa using hx))
  have e2 : L.filter (fun x => decide (x.born ≥ since)) = #[] := by
    rw [Array.filter_eq_empty_iff]
    intro x hx
    have := hmem x (by simpa using hx)
    simp
    omega
  simp only [e1, e2, Array.append_empty]
  by_cases h0 : L.size = 0
  · left
    have : L = #[] := Array.eq_empty_of_size_eq_zero h0
    subst this
    refine ⟨rfl, ?_⟩
    simp [choose, Sem.run, Question.forced]
  · right
    have hne : L.isEmpty = false := by simp [Array.isEmpty, h0]
    simp only [hne, Bool.false_eq_true, if_false, Array.empty_append, Array.size_map]
    have hch : ∃ (j : Nat) (w1 : World), j < L.size ∧ (w1.heap = w.heap ∧ w1.os = w.os ∧ w1.tape = w.tape ∧ w1.output = w.output) ∧ (choose (Question.mapNext L.size)).run P w = .ok j w1 := by
      by_cases hf : L.size ≤ 1
      · exact ⟨0, w, by omega, ⟨rfl, rfl, rfl, rfl⟩, by simp [choose, Sem.run, Question.forced, hf]⟩
      · exact ⟨_, { w with drawn := w.drawn + 1 }, Nat.mod_lt _ (by omega), ⟨rfl, rfl, rfl, rfl⟩, by
          simp only [choose, Sem.run, Question.forced, decide_eq_true_eq, hf, if_false, Question.cut]
          rfl⟩
    obtain ⟨j, w1, hj, hal, hrun⟩ := hch
    refine ⟨L[j], by simp, w1, hal, ?_⟩
    have hset : ∀ (o' : Obj), (setObj r o').run P w1 = .ok () { w1 with heap := w1.heap.setIfInBounds r o' } := fun o' => by
      simp [setObj, Sem.run, hal.1, hr]
    simp only [hrun, Array.getElem?_map, Array.getElem?_eq_getElem hj, Option.map_some, Sem.run_bind, hset, Result.andThen]
    rfl

/-- A map is turned. -/
theorem Ex.setMap (hm : RelM β n m w) {r clk clk2 : Nat} {es es2 : List (Value × Value)} {es' es2' : Array MapEntry} (hg : m.get r = some (.map es clk)) (hh : w.heap[(β r).blk]? = some (.map es' clk))
    (hb : ∀ e ∈ es2, blw n e.1 = true ∧ blw n e.2 = true) (hn : (es2.map (·.1)).Nodup) (hp : (es2'.toList.map fun e => (e.key, e.val)).Perm (es2.map fun e => (ren β e.1, ren β e.2)))
    (hborn : ∀ e ∈ es2'.toList, e.born < clk2) (hbn : (es2'.toList.map (·.born)).Nodup)
    (hit : clk2 = clk ∧ (∀ e2 ∈ es2'.toList, ∃ e ∈ es'.toList, e.born = e2.born ∧ e.key = e2.key) ∨ clk < clk2) :
    Ex β n m w β n (m.set r (.map es2 clk2)) { w with heap := w.heap.setIfInBounds (β r).blk (.map es2' clk2) } := by
  obtain ⟨hin, ho⟩ := hm.obj r _ hg
  have hnl := ho.own_nil rfl
  have hlt := ho.lt hnl
  have hbk : ∀ b, b ≠ (β r).blk → (w.heap.setIfInBounds (β r).blk (.map es2' clk2))[b]? = w.heap[b]? := fun b hb => Array.getElem?_setIfInBounds_ne (Ne.symm hb)
  have hself : (w.heap.setIfInBounds (β r).blk (.map es2' clk2))[(β r).blk]? = some (.map es2' clk2) := by simp [hlt]
  refine Ex.one hm r (fun b => b = (β r).blk) (Dm.le_refl _) hm.hol (fun _ _ => rfl) rfl rfl rfl (by simp) (fun b _ hb => hbk b hb) (fun b hb => ⟨r, _, hg, rfl, hb.symm⟩)
    (fun j oj hj hgj => ?_) (fun j mp since left cur hj hgj ht hr => ?_) (fun o2 ho2 => ?_)
  · rw [Tr.get_set, if_neg (Ne.symm hj)] at hgj
    exact ⟨hgj, fun hnj e => hm.dis r j _ oj (Ne.symm hj) hg hgj rfl hnj e.symm⟩
  · obtain ⟨h1, h2, seen, stepped, h3, h4⟩ := hr
    rw [Tr.get_set, if_neg (Ne.symm hj)] at hgj
    have hne : (β j).blk ≠ (β r).blk := hm.dis j r _ _ hj hgj hg rfl hnl
    refine ⟨h1, h2, seen, stepped, by show (w.heap.setIfInBounds _ _)[_]? = _; rw [hbk _ hne]; exact h3, fun mp' e => ?_⟩
    cases e
    have hbm : (β mp).blk = (β r).blk := ht
    obtain ⟨h5, h6⟩ := h4 mp rfl
    refine ⟨⟨h5.1, by simpa using h5.2⟩, fun es3 clk3 hes => ?_⟩
    have hes : (w.heap.setIfInBounds (β r).blk (.map es2' clk2))[(β mp).blk]? = some (.map es3 clk3) := hes
    rw [hbm, hself] at hes
    simp only [Option.some.injEq, Obj.map.injEq] at hes
    obtain ⟨rfl, rfl⟩ := hes
    obtain ⟨h7, h8⟩ := h6 es' clk (by rw [hbm]; exact hh)
    rcases hit with ⟨rfl, hit⟩ | hit
    · refine ⟨h7, fun e => ?_⟩
      obtain ⟨h9, h10, h11⟩ := h8 e
      refine ⟨fun e2 he2 => ?_, h10, fun k hk => ?_⟩
      · obtain ⟨e1, he1, hb1, hk1⟩ := hit e2 he2
        rw [← hb1, ← hk1]; exact h9 e1 he1
      · obtain ⟨st, hst, hst2⟩ := h11 k hk
        refine ⟨st, hst, fun e2 he2 => ?_⟩
        obtain ⟨e1, he1, hb1, hk1⟩ := hit e2 he2
        rw [← hb1, ← hk1]; exact hst2 e1 he1
    · exact ⟨by omega, fun e => by omega⟩
  · rw [Tr.get_set, if_pos rfl] at ho2
    simp only [Option.some.injEq] at ho2; subst ho2
    exact ⟨hin, ⟨hnl, hb, hn, es2', hself, hp, hborn, hbn⟩, fun _ => .inr rfl, rfl⟩

theorem ren_intKey {es : List (Value × Value)} (h : ∀ e ∈ es, intKey e = true) : es.map (fun e => ren β e.1) = es.map (·.1) :=
  List.map_congr_left fun e he => by obtain ⟨k, c, hk⟩ := intKey_of (h e he); rw [hk]; rfl

theorem keyOf_intKey {kk : IntKind} {e : Value × Value} (h : keyOf kk e.1 = true) : intKey e = true := by
  obtain ⟨a, b⟩ := e
  cases a <;> simp_all [keyOf, intKey]

/-- Writing an entry. -/
theorem mapUpdate_sound (hm : RelM β n m w) {t kt el : TypeId} {k0 kk : IntKind} {kn : Int} {r clk : Nat} {es : List (Value × Value)} {v : Value} (hu : P.underlying t = some (.map kt el)) (hkt : P.underlying kt = some (.int k0))
    (hg : m.get r = some (.map es clk)) (hall : es.all (fun e => keyOf kk e.1) = true) (hv : blw n v = true) :
    ∃ w', (Instr.mapUpdate t (.map (some (β r).blk)) (.int kk kn) (ren β v)).run P w = .ok () w' ∧
      Ex β n m w β n (m.set r (if es.any (fun e => keyIs kk kn e.1) then .map (setKey es kk kn v) clk else .map (es ++ [(.int kk kn, v)]) (clk + 1))) w' := by
  obtain ⟨hin, hnl, hb, hnd, es', hh, hp, hborn, hbn⟩ := hm.obj r _ hg
  have hk' : ∀ e ∈ es, keyOf kk e.1 = true := by simpa using hall
  have hik : ∀ e ∈ es, intKey e = true := fun e he => keyOf_intKey (hk' e he)
  obtain ⟨ha, hf⟩ := map_find (kn := kn) hp hnd hall
  obtain ⟨x, hx1, hx2, hx3⟩ := findNow_int k0 kk kn es'.toList 0 ha
  rw [hf] at hx2
  have hset : ∀ (a : Array MapEntry) (b : Nat), (setObj (β r).blk (.map a b)).run P w = .ok () { w with heap := w.heap.setIfInBounds (β r).blk (.map a b) } := fun a b => by simp [setObj, Sem.run, hh]
  have hkeys : (es'.toList.map (·.key)).Nodup := by
    have h1 : (es'.toList.map (·.key)).Perm (es.map (·.1)) := by
      have := hp.map (·.1)
      simp only [List.map_map] at this
      rw [show ((fun x : Value × Value => x.1) ∘ fun e : Value × Value => (ren β e.1, ren β e.2)) = fun e => ren β e.1 from rfl, ren_intKey hik] at this
      exact this
    exact h1.nodup_iff.2 hnd
  cases x with
  | none =>
    have hany : es.any (fun e => keyIs kk kn e.1) = false := by
      cases hq : es.find? (fun e => keyIs kk kn e.1) with
      | some e => rw [hq] at hx2; simp at hx2
      | none =>
        rw [List.find?_eq_none] at hq
        rw [List.any_eq_false]; exact hq
    rw [hany, if_neg (by simp)]
    refine ⟨_, ?_, Ex.setMap hm (es2 := es ++ [(.int kk kn, v)]) (clk2 := clk + 1) (es2' := es'.push { key := .int kk kn, val := ren β v, born := clk }) hg hh ?_ ?_ ?_ ?_ ?_ (.inr (Nat.lt_succ_self _))⟩
    · simp only [Instr.mapUpdate, Sem.run_bind, run_und hu, Result.andThen_ok, run_getObj_map hh, run_checkKey_int (d := 9999) hkt, Instr.findKey, run_und hkt, hx1, Sem.run_pure]
      exact hset _ _
    · intro e he
      rcases List.mem_append.1 he with he | he
      · exact hb e he
      · simp only [List.mem_singleton] at he; subst he; exact ⟨rfl, hv⟩
    · rw [List.map_append, List.nodup_append]
      refine ⟨hnd, by simp, fun a ha b hb' => ?_⟩
      simp only [List.map_cons, List.map_nil, List.mem_singleton] at hb'
      subst hb'
      intro e; subst e
      obtain ⟨e, he, hea⟩ := List.mem_map.1 ha
      have := (List.any_eq_false.1 hany) e he
      rw [hea] at this
      simp [keyIs] at this
    · simp only [Array.toList_push, List.map_append, List.map_cons, List.map_nil]
      exact hp.append (List.Perm.refl _)
    · intro e he
      simp only [Array.toList_push, List.mem_append, List.mem_singleton] at he
      rcases he with he | rfl
      · exact Nat.lt_succ_of_lt (hborn e he)
      · exact Nat.lt_succ_self _
    · simp only [Array.toList_push, List.map_append, List.map_cons, List.map_nil]
      rw [List.nodup_append]
      refine ⟨hbn, by simp, fun a ha b hb' => ?_⟩
      simp only [List.mem_singleton] at hb'; subst hb'
      obtain ⟨e, he, rfl⟩ := List.mem_map.1 ha
      exact Nat.ne_of_lt (hborn e he)
  | some jx =>
    obtain ⟨j, xv⟩ := jx
    obtain ⟨_, e0, he0, hke, _⟩ := hx3 j xv rfl
    simp only [Nat.sub_zero] at he0
    have hany : es.any (fun e => keyIs kk kn e.1) = true := by
      cases hq : es.find? (fun e => keyIs kk kn e.1) with
      | none => rw [hq] at hx2; simp at hx2
      | some e => exact List.any_eq_true.2 ⟨e, List.mem_of_find?_eq_some hq, List.find?_some (p := fun e : Value × Value => keyIs kk kn e.1) hq⟩
    rw [hany, if_pos rfl]
    let g : MapEntry → MapEntry := fun e => if keyIs kk kn e.key then { e with key := .int kk kn, val := ren β v } else e
    have hmod : (es'.modify j fun e => { e with key := .int kk kn, val := ren β v }).toList = es'.toList.map g := by
      rw [Array.toList_modify]
      apply List.ext_getElem?
      intro q
      rw [List.getElem?_modify, List.getElem?_map]
      cases hq : es'.toList[q]? with
      | none => split <;> rfl
      | some e =>
        by_cases hjq : j = q
        · subst hjq
          rw [he0] at hq; cases hq
          simp [g, hke, keyIs]
        · simp only [if_neg hjq, Functor.map]
          simp only [Option.map_some, g]
          rw [if_neg]
          intro hk
          have h1 := keyIs_eq hk
          have := (List.getElem?_inj (l := es'.toList.map (·.key)) (i := q) (j := j) (by simpa using (List.getElem?_eq_some_iff.1 hq).1) hkeys).1 (by
            rw [List.getElem?_map, List.getElem?_map, hq, he0]; simp [h1, hke])
          exact hjq this.symm
    have hgb : ∀ e : MapEntry, (g e).born = e.born := fun e => by simp only [g]; split <;> rfl
    have hgk : ∀ e : MapEntry, (g e).key = e.key := fun e => by
      simp only [g]
      split
      · rename_i hk; exact (keyIs_eq hk).symm
      · rfl
    refine ⟨_, ?_, Ex.setMap hm (es2 := setKey es kk kn v) (clk2 := clk) (es2' := es'.modify j fun e => { e with key := .int kk kn, val := ren β v }) hg hh ?_ ?_ ?_ ?_ ?_ (.inl ⟨rfl, fun e2 he2 => ?_⟩)⟩
    · have hk0 : ((es'[j]?).map (·.key)).getD (.int kk kn) = .int kk kn := by
        rw [← Array.getElem?_toList, he0]; exact hke
      have hks : (Instr.keyThatStays (.int kk kn) (.int kk kn)).run P w = .ok (.int kk kn) w := by simp [Instr.keyThatStays, Instr.sameBits]
      simp only [Instr.mapUpdate, Sem.run_bind, run_und hu, Result.andThen_ok, run_getObj_map hh, run_checkKey_int (d := 9999) hkt, Instr.findKey, run_und hkt, hx1, Sem.run_pure, hk0, hks]
      exact hset _ _
    · intro e he
      simp only [setKey, List.mem_map] at he
      obtain ⟨e1, h1, rfl⟩ := he
      split
      · exact ⟨(hb e1 h1).1, hv⟩
      · exact hb e1 h1
    · have : (setKey es kk kn v).map (·.1) = es.map (·.1) := by
        simp only [setKey, List.map_map]
        exact List.map_congr_left fun e _ => by simp only [Function.comp]; split <;> rfl
      rw [this]; exact hnd
    · rw [hmod]
      let g' : Value × Value → Value × Value := fun p => if keyIs kk kn p.1 then (.int kk kn, ren β v) else p
      have e1 : (es'.toList.map g).map (fun e => (e.key, e.val)) = (es'.toList.map fun e => (e.key, e.val)).map g' := by
        simp only [List.map_map]
        exact List.map_congr_left fun e _ => by simp only [Function.comp, g, g']; split <;> rfl
      have e2 : (setKey es kk kn v).map (fun e => (ren β e.1, ren β e.2)) = (es.map fun e => (ren β e.1, ren β e.2)).map g' := by
        simp only [setKey, List.map_map]
        refine List.map_congr_left fun e he => ?_
        obtain ⟨k, c, hkc⟩ := intKey_of (hik e he)
        simp only [Function.comp, g', hkc, ren]
        split
        · rename_i hk
          have := keyIs_eq hk
          simp [ren, this]
        · simp [hkc, ren]
      rw [e1, e2]
      exact hp.map g'
    · intro e he
      rw [hmod] at he
      obtain ⟨e1, h1, rfl⟩ := List.mem_map.1 he
      rw [hgb]; exact hborn e1 h1
    · rw [hmod, List.map_map, show ((fun e : MapEntry => e.born) ∘ g) = fun e => e.born from funext hgb]
      exact hbn
    · rw [hmod] at he2
      obtain ⟨e1, h1, rfl⟩ := List.mem_map.1 he2
      exact ⟨e1, h1, (hgb e1).symm, (hgk e1).symm⟩

/-- Beginning a range over a map. -/
theorem range_sound (hm : RelM β n m w) {t kt el : TypeId} {r clk : Nat} {es : List (Value × Value)} (hu : P.underlying t = some (.map kt el)) (hg : m.get r = some (.map es clk)) (hall : es.all intKey = true) :
    ∃ β' w', (Instr.range t (.map (some (β r).blk))).run P w = .ok (ren β' (.pointer (some ⟨n.n, 0, none⟩))) w' ∧ Ex β n m w β' (n.up (n.n + 1)) (m.set n.n (.iter (some r) clk (es.map (·.1)) none)) w' := by
  obtain ⟨hin, hnl, hb, hnd, es', hh, hp, hborn, hbn⟩ := hm.obj r _ hg
  have hlt : (β r).blk < w.heap.size := (Array.getElem?_eq_some_iff.1 hh).1
  have hik : ∀ e ∈ es, intKey e = true := by simpa using hall
  have hne : r ≠ n.n := fun e => by rw [e, has_n] at hin; cases hin
  have hup : n.le (n.up (n.n + 1)) := Dm.le_up (by omega)
  refine ⟨_, _, ?_, Ex.new' hm (w' := { w with heap := w.heap.push (.mapIter (some (β r).blk) clk #[] clk) }) (.mapIter (some (β r).blk) clk #[] clk) (has_n n) hup (hol_up hm.hol (by omega)) (has_up hm.hol)
    ⟨w.heap.size, 0, 0, false, none⟩ rfl rfl rfl rfl rfl rfl rfl ?_⟩
  · simp [Instr.range, run_und hu, ren, renPtr, upd_self, run_getObj_map hh]
  · refine ⟨rfl, rfl, #[], clk, ?_, fun mp e => ?_⟩
    · simp [upd_ne β _ hne]
    · cases e
      rw [upd_ne β _ hne]
      refine ⟨⟨hup _ hin, by simp; omega⟩, fun es2 clk2 h2 => ?_⟩
      have h2 : (w.heap.push (.mapIter (some (β r).blk) clk #[] clk))[(β r).blk]? = some (.map es2 clk2) := h2
      rw [Array.getElem?_push_lt hlt, ← Array.getElem?_eq_getElem hlt, hh] at h2
      simp only [Option.some.injEq, Obj.map.injEq] at h2
      obtain ⟨rfl, rfl⟩ := h2
      refine ⟨Nat.le_refl _, fun _ => ⟨fun e he => ?_, by simp, by simp⟩⟩
      simp only [Array.contains_eq_mem, Array.not_mem_empty, decide_false, true_iff]
      have : (e.key, e.val) ∈ es.map fun e => (ren β e.1, ren β e.2) := hp.mem_iff.1 (List.mem_map_of_mem (f := fun e : MapEntry => (e.key, e.val)) he)
      obtain ⟨x, hx, hxe⟩ := List.mem_map.1 this
      simp only [Prod.mk.injEq] at hxe
      obtain ⟨k, c, hkc⟩ := intKey_of (hik x hx)
      refine List.mem_map.2 ⟨x, hx, ?_⟩
      rw [← hxe.1, hkc]; rfl

def candOf (es : List (Value × Value)) (left : List Value) : List (Value × Value) :=
  es.filter (fun e => left.any fun k => match k with | .int kk kn => keyIs kk kn e.1 | _ => false)
def leftBut (left : List Value) (x : Value) : List Value := left.filter fun k => match x with | .int kk kn => !keyIs kk kn k | _ => false

theorem born_nodup : ∀ {l : List MapEntry}, (l.map (·.born)).Nodup → ∀ a ∈ l, ∀ b ∈ l, a.born = b.born → a = b
  | [], _ => by simp
  | c :: l, hn => by
    intro a ha b hb hab
    simp only [List.map_cons, List.nodup_cons, List.mem_map, not_exists, not_and] at hn
    rcases List.mem_cons.1 ha with ea | ha' <;> rcases List.mem_cons.1 hb with eb | hb' <;> (try subst ea) <;> (try subst eb)
    · rfl
    · exact absurd hab.symm (hn.1 b hb')
    · exact absurd hab (hn.1 a ha')
    · exact born_nodup hn.2 a ha' b hb' hab

/-- The next entry of a range over a map. -/
theorem next_sound (hm : RelM β n m w) (ty : TypeId) {r mp since clk : Nat} {left : List Value} {cur : Option Value} {es : List (Value × Value)} (hi : m.get r = some (.iter (some mp) since left cur)) (hg : m.get mp = some (.map es clk))
    (hclk : clk = since) (hall : es.all intKey = true) :
    (candOf es left = [] ∧ (Instr.next (.pointer (some ⟨(β r).blk, 0, none⟩)) false ty).run P w = .ok (.tuple #[.bool false]) w) ∨
    ∃ e ∈ candOf es left, ∃ w', (Instr.next (.pointer (some ⟨(β r).blk, 0, none⟩)) false ty).run P w = .ok (.tuple #[.bool true, ren β e.1, ren β e.2]) w' ∧
      Ex β n m w β n (m.set r (.iter (some mp) since (leftBut left e.1) (some e.1))) w' ∧ blw n e.1 = true ∧ blw n e.2 = true := by
  subst hclk
  obtain ⟨hin, hnl, hb, hnd, es', hh, hp, hborn, hbn⟩ := hm.obj mp _ hg
  obtain ⟨hir, hi1, hi0, seen, stepped, hi2, hi3⟩ := hm.obj r _ hi
  obtain ⟨hi4, hi5⟩ := hi3 mp rfl
  obtain ⟨hi7, hi8, hi9⟩ := (hi5 es' clk hh).2 rfl
  have hik : ∀ e ∈ es, intKey e = true := by simpa using hall
  -- the entries, both ways
  have to : ∀ e' ∈ es'.toList, ∃ e ∈ es, e'.key = e.1 ∧ e'.key = ren β e.1 ∧ e'.val = ren β e.2 := by
    intro e' he'
    have : (e'.key, e'.val) ∈ es.map fun e => (ren β e.1, ren β e.2) := hp.mem_iff.1 (List.mem_map_of_mem (f := fun e : MapEntry => (e.key, e.val)) he')
    obtain ⟨x, hx, hxe⟩ := List.mem_map.1 this
    simp only [Prod.mk.injEq] at hxe
    obtain ⟨k, c, hkc⟩ := intKey_of (hik x hx)
    exact ⟨x, hx, by rw [← hxe.1, hkc]; rfl, hxe.1.symm, hxe.2.symm⟩
  have fro : ∀ e ∈ es, ∃ e' ∈ es'.toList, e'.key = e.1 := by
    intro e he
    have : (ren β e.1, ren β e.2) ∈ es'.toList.map fun e => (e.key, e.val) := hp.mem_iff.2 (List.mem_map_of_mem (f := fun e : Value × Value => (ren β e.1, ren β e.2)) he)
    obtain ⟨x, hx, hxe⟩ := List.mem_map.1 this
    simp only [Prod.mk.injEq] at hxe
    obtain ⟨k, c, hkc⟩ := intKey_of (hik e he)
    exact ⟨x, hx, by rw [hxe.1, hkc]; rfl⟩
  have hcand : ∀ e ∈ es, (e ∈ candOf es left ↔ e.1 ∈ left) := by
    intro e he
    obtain ⟨k, c, hkc⟩ := intKey_of (hik e he)
    simp only [candOf, List.mem_filter, he, true_and, List.any_eq_true]
    constructor
    · rintro ⟨x, hx, hxe⟩
      split at hxe
      · have := keyIs_eq hxe
        rw [this]; exact hx
      · cases hxe
    · intro hx
      exact ⟨_, hx, by rw [hkc]; simp [keyIs]⟩
  have hkeys : (es'.toList.map (·.key)).Nodup := by
    have h1 : (es'.toList.map (·.key)).Perm (es.map (·.1)) := by
      have := hp.map (·.1)
      simp only [List.map_map] at this
      rw [show ((fun x : Value × Value => x.1) ∘ fun e : Value × Value => (ren β e.1, ren β e.2)) = fun e => ren β e.1 from rfl, ren_intKey hik] at this
      exact this
    exact h1.nodup_iff.2 hnd
  have hkn : ∀ a ∈ es'.toList, ∀ b ∈ es'.toList, a.key = b.key → a = b := by
    intro a ha b hb' hab
    obtain ⟨i, hi'⟩ := List.mem_iff_getElem?.1 ha
    obtain ⟨j, hj'⟩ := List.mem_iff_getElem?.1 hb'
    have := (List.getElem?_inj (l := es'.toList.map (·.key)) (i := i) (j := j) (by simpa using (List.getElem?_eq_some_iff.1 hi').1) hkeys).1 (by
      rw [List.getElem?_map, List.getElem?_map, hi', hj']; simp [hab])
    subst this
    rw [hi'] at hj'; cases hj'; rfl
  have hi2' : w.heap[(β r).blk]? = some (.mapIter (some (β mp).blk) clk seen stepped) := hi2
  rcases run_next_at (P := P) ty hi2' hh hborn (fun h => by rw [hi8 h]; exact Nat.le_refl _) with ⟨h0, hrun⟩ | ⟨e', he', w1, ⟨a1, a2, a3, a4⟩, hrun⟩
  · left
    refine ⟨?_, hrun⟩
    cases hc : candOf es left with
    | nil => rfl
    | cons e l =>
      have hec : e ∈ candOf es left := by rw [hc]; exact List.mem_cons_self ..
      have he : e ∈ es := (List.mem_filter.1 hec).1
      have hl := (hcand e he).1 hec
      obtain ⟨e', he', hk⟩ := fro e he
      have := (hi7 e' he').2 (by rw [hk]; exact hl)
      have hmem : e' ∈ leftOf es' seen := by
        unfold leftOf
        rw [Array.mem_filter]
        exact ⟨by simpa using he', by simpa using this⟩
      have := Array.size_pos_of_mem hmem
      omega
  · right
    have hmem : e' ∈ leftOf es' seen := by simpa using he'
    unfold leftOf at hmem
    rw [Array.mem_filter] at hmem
    have he2 : e' ∈ es'.toList := by simpa using hmem.1
    obtain ⟨e, he, hk1, hk2, hv⟩ := to e' he2
    have hns : seen.contains e'.born = false := by simpa using hmem.2
    have hleft : e'.key ∈ left := (hi7 e' he2).1 hns
    obtain ⟨k, c, hkc⟩ := intKey_of (hik e he)
    have hm1 : RelM β n m w1 := hm.heap a1
    have hw1r : w1.heap[(β r).blk]? = some (.mapIter (some (β mp).blk) clk seen stepped) := by rw [a1]; exact hi2'
    have hw1m : w1.heap[(β mp).blk]? = some (.map es' clk) := by rw [a1]; exact hh
    have hlt : (β r).blk < w1.heap.size := (Array.getElem?_eq_some_iff.1 hw1r).1
    have hne : (β r).blk ≠ (β mp).blk := fun e => by rw [e, hw1m] at hw1r; cases hw1r
    refine ⟨e, (hcand e he).2 (by rw [← hk1]; exact hleft), _, by rw [hrun, hk2, hv], ((Ex.refl hm).heapR a1 a2 a3 a4).trans ?_, hb e he⟩
    refine Ex.setO hm1 hi rfl rfl (by simp) ⟨hi1, hi0, seen.push e'.born, clk, ?_, fun mp' em => ?_⟩
    · simp [hlt]
    · cases em
      refine ⟨⟨hi4.1, by simpa [a1] using hi4.2⟩, fun es2 clk2 h2 => ?_⟩
      have h2 : (w1.heap.setIfInBounds (β r).blk (.mapIter (some (β mp).blk) clk (seen.push e'.born) clk))[(β mp).blk]? = some (.map es2 clk2) := h2
      rw [Array.getElem?_setIfInBounds_ne hne, hw1m] at h2
      simp only [Option.some.injEq, Obj.map.injEq] at h2
      obtain ⟨rfl, rfl⟩ := h2
      refine ⟨Nat.le_refl _, fun _ => ⟨fun x hx => ?_, fun _ => rfl, fun kq hkq => ?_⟩⟩
      · have hxb : x.born = e'.born ↔ x.key = e.1 := by
          constructor
          · intro hbe; rw [born_nodup hbn x hx e' he2 hbe, hk1]
          · intro hke; rw [hkn x hx e' he2 (hke.trans hk1.symm)]
        obtain ⟨y, hy, hy1, _⟩ := to x hx
        obtain ⟨k2, c2, hkc2⟩ := intKey_of (hik y hy)
        have hpush : (seen.push e'.born).contains x.born = false ↔ seen.contains x.born = false ∧ ¬ x.born = e'.born := by
          rw [Bool.eq_false_iff, Bool.eq_false_iff, ne_eq, ne_eq, Array.contains_iff_mem, Array.contains_iff_mem, Array.mem_push, not_or]
        rw [hpush, hi7 x hx, hxb]
        simp only [leftBut, hkc, List.mem_filter, Bool.not_eq_true']
        have : keyIs k c x.key = false ↔ ¬ x.key = .int k c := by
          constructor
          · intro h e; rw [e] at h; simp [keyIs] at h
          · intro h
            cases hq : keyIs k c x.key with
            | false => rfl
            | true => exact absurd (keyIs_eq hq) h
        rw [this]
      · simp only [Option.some.injEq] at hkq; subst hkq
        refine ⟨e'.born, by simp, fun x hx => ?_⟩
        constructor
        · intro hbe; rw [born_nodup hbn x hx e' he2 hbe, hk1]
        · intro hke; rw [hkn x hx e' he2 (hke.trans hk1.symm)]
end
end Go.Ab
