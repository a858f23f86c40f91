/- The operations that at most read: sound, the last. -/
import Derived.Test.YtiomjekkmjinbaaAb7
namespace Go.Ab
open Go

theorem foldl_set_list (off : Nat) : ∀ (vc : List Value) (k : Nat) (cs : List Value), off + k + vc.length ≤ cs.length →
    ((vc.zipIdx k).foldl (fun (cs : Array Value) (p : Value × Nat) => cs.setIfInBounds (off + p.2) p.1) cs.toArray) =
      (cs.take (off + k) ++ (vc ++ cs.drop (off + k + vc.length))).toArray := by
  intro vc
  induction vc with
  | nil => intro k cs h; simp
  | cons v vc ih =>
    intro k cs h
    simp only [List.length_cons] at h
    simp only [List.zipIdx_cons, List.foldl_cons]
    have e : cs.toArray.setIfInBounds (off + k) v = (cs.set (off + k) v).toArray := by simp
    rw [e, ih (k + 1) (cs.set (off + k) v) (by simp; omega)]
    congr 1
    rw [show off + (k + 1) = off + k + 1 from by omega, List.take_add_one]
    rw [List.take_set_of_le (Nat.le_refl _)]
    rw [List.getElem?_set_self (by omega)]
    simp only [Option.toList_some, List.append_assoc, List.cons_append, List.nil_append, List.length_cons]
    rw [List.drop_set_of_lt (by omega)]
    congr 3
    rw [show off + k + 1 + vc.length = off + k + (vc.length + 1) from by omega]

theorem foldl_set (off : Nat) (vc cs : Array Value) (h : off + vc.size ≤ cs.size) :
    (vc.zipIdx.foldl (fun (cs : Array Value) (x : Value × Nat) => match x with | (c, j) => cs.setIfInBounds (off + j) c) cs) =
      (cs.toList.take off ++ (vc.toList ++ cs.toList.drop (off + vc.size))).toArray := by
  have := foldl_set_list off vc.toList 0 cs.toList (by simpa using h)
  rw [← Array.foldl_toList, Array.toList_zipIdx]
  simpa using this

theorem fillA_sound {β : Beta} {placeA : Nat → Option (Nat × Nat)} : ∀ {ps : List (Nat × Value)} {z cs : List Value}, fillA placeA z ps = some cs →
    Instr.fill placeA (renL β z).toArray (ps.map fun (i, v) => (i, ren β v)) = some (renL β cs).toArray := by
  intro ps
  induction ps with
  | nil => intro z cs h; simp only [fillA, Option.some.injEq] at h; subst h; simp [Instr.fill]
  | cons p ps ih =>
    obtain ⟨i, v⟩ := p
    intro z cs h
    simp only [fillA] at h
    split at h
    · cases h
    · rename_i off size hp
      split at h
      · cases h
      · rename_i hc
        simp only [Bool.or_eq_true, decide_eq_true_eq, not_or, Decidable.not_not, ne_eq, Nat.not_lt] at hc
        simp only [List.map_cons, Instr.fill, hp]
        rw [if_neg (by rw [ren_cells_size]; simp [renL_eq]; simpa using hc)]
        have := ih h
        rw [foldl_set _ _ _ (by rw [ren_cells_size]; simp [renL_eq]; simpa using hc.2)]
        rw [← this]
        congr 2
        simp [renL_eq, ren_cells, List.map_take, List.map_drop]

theorem fillA_blw {n : Dm} {placeA : Nat → Option (Nat × Nat)} : ∀ {ps : List (Nat × Value)} {z cs : List Value}, fillA placeA z ps = some cs → blwL n z = true →
    (∀ p ∈ ps, blw n p.2 = true) → blwL n cs = true := by
  intro ps
  induction ps with
  | nil => intro z cs h hz _; simp only [fillA, Option.some.injEq] at h; subst h; exact hz
  | cons p ps ih =>
    obtain ⟨i, v⟩ := p
    intro z cs h hz hp
    simp only [fillA] at h
    split at h
    · cases h
    · split at h
      · cases h
      · refine ih h ?_ (fun q hq => hp q (List.mem_cons_of_mem _ hq))
        have hv := blw_cells (hp (i, v) (List.mem_cons_self ..))
        simp only [blwL_eq, List.all_append, Bool.and_eq_true, List.all_eq_true] at hz hv ⊢
        exact ⟨fun x hx => hz x (List.mem_of_mem_take hx), hv, fun x hx => hz x (List.mem_of_mem_drop hx)⟩
theorem fillA_length {placeA : Nat → Option (Nat × Nat)} : ∀ {ps : List (Nat × Value)} {z cs : List Value}, fillA placeA z ps = some cs → cs.length = z.length := by
  intro ps
  induction ps with
  | nil => intro z cs h; simp only [fillA, Option.some.injEq] at h; subst h; rfl
  | cons p ps ih =>
    obtain ⟨i, v⟩ := p
    intro z cs h
    simp only [fillA] at h
    split at h
    · cases h
    · split at h
      · cases h
      · rename_i hc
        simp only [Bool.or_eq_true, decide_eq_true_eq, not_or, Decidable.not_not, ne_eq, Nat.not_lt] at hc
        have := ih h
        simp only [List.length_append, List.length_take, List.length_drop] at this
        omega

section
variable {P : Program} {β : Beta} {n : Dm} {m : Mem} {w : World} {sl : Slots} {ρ : Operand → Value}

theorem run_places (fields : List Field) (h : fields.all (fun f => (szOf P f.type).isSome) = true) :
    (fields.mapM (m := Sem) fun f => do pure (f.offset, ← sizeOf f.type)).run P w = .ok (fields.map fun f => (f.offset, (szOf P f.type).getD 0)) w := by
  induction fields with
  | nil => simp
  | cons f fs ih =>
    simp only [List.all_cons, Bool.and_eq_true] at h
    obtain ⟨s, hs⟩ := Option.isSome_iff_exists.1 h.1
    have := ih h.2
    simp only [List.mapM_cons, Sem.run_bind, run_sz hs, Result.andThen_ok, Sem.run_pure, this, hs, List.map_cons, Option.getD_some]

theorem evs_toList (h : RelO β n sl ρ) {args : Array Operand} {vs : List Value} (e : evs sl args.toList = some vs) : args.map ρ = (renL β vs).toArray ∧ blwL n vs = true := by
  have ⟨a, b⟩ := h.evs e
  refine ⟨?_, b⟩
  rw [← a]; apply Array.ext'; simp

theorem zero_ren {t : TypeId} {z : Value} (h : zeroOf P t = some z) : (zeroValue t).run P w = .ok z w ∧ ren β z = z ∧ blw n z = true :=
  have ⟨a, b⟩ := run_zero (w := w) h
  ⟨a, ren_const β z b, blw_mono (Dm.none_le _) z b⟩

theorem renSlice_form (l : Loc) (o : Nat) (s : Option Nat) (a b : Nat) : ∃ ad c, renSlice l o s a b = .slice ad a c := by
  unfold renSlice
  (repeat' split) <;> exact ⟨_, _, rfl⟩

theorem live_nil (hm : RelM β n m w) {b : Nat} (h : liveAt m b = true) : (β b).nil = false := by
  unfold liveAt at h
  split at h
  · rename_i hg; exact (hm.obj _ _ hg).2.1
  · rename_i nl el esz cs hg
    obtain ⟨h1, _, _, h2, _⟩ := (hm.obj _ _ hg).2
    cases hn : (β b).nil with
    | false => rfl
    | true => simp [h2 hn] at h
  · cases h

theorem keyIs_eq {kk : IntKind} {kn : Int} {v : Value} (h : keyIs kk kn v = true) : v = .int kk kn := by
  unfold keyIs at h
  split at h
  · simp only [Bool.and_eq_true, beq_iff_eq] at h; simp [h.1, h.2]
  · cases h
theorem keyIs_self (kk : IntKind) (kn : Int) : keyIs kk kn (.int kk kn) = true := by simp [keyIs]
theorem keyOf_int {kk : IntKind} {v : Value} (h : keyOf kk v = true) : ∃ c, v = .int kk c := by
  unfold keyOf at h
  split at h
  · simp only [beq_iff_eq] at h; subst h; exact ⟨_, rfl⟩
  · cases h
theorem ren_int (β : Beta) (k : IntKind) (c : Int) : ren β (.int k c) = .int k c := rfl

theorem run_getObj_map {r : Nat} {es : Array MapEntry} {clk : Nat} (h : w.heap[r]? = some (.map es clk)) : (getObj r).run P w = .ok (.map es clk) w := by
  simp [getObj, Sem.run, h]
theorem run_checkKey_int {e : Bool} {d : Nat} {t : TypeId} {k k0 : IntKind} {c : Int} (h : P.underlying t = some (.int k0)) :
    (Instr.checkKey e (d + 1) t (.int k c)).run P w = .ok () w := by
  simp [Instr.checkKey, run_und h]

theorem findNow_int (k0 kk : IntKind) (kn : Int) : ∀ (l : List MapEntry) (i : Nat), (∀ e ∈ l, keyOf kk e.key = true) →
    ∃ r, Instr.findNow (.int k0) (.int kk kn) l i = some r ∧ r.map (·.2) = (l.find? fun e => keyIs kk kn e.key).map (·.val) ∧
      (∀ j v, r = some (j, v) → i ≤ j ∧ ∃ e, l[j - i]? = some e ∧ e.key = .int kk kn ∧ e.val = v) := by
  intro l
  induction l with
  | nil => intro i _; exact ⟨none, rfl, rfl, by simp⟩
  | cons e l ih =>
    intro i h
    obtain ⟨c, hc⟩ := keyOf_int (h e (List.mem_cons_self ..))
    simp only [Instr.findNow, hc, Instr.sameNow, if_true]
    by_cases hk : kn = c
    · subst hk
      refine ⟨some (i, e.val), by simp, ?_, ?_⟩
      · simp [hc, keyIs]
      · intro j v hj
        simp only [Option.some.injEq, Prod.mk.injEq] at hj
        obtain ⟨rfl, rfl⟩ := hj
        exact ⟨Nat.le_refl _, e, by simp, hc, rfl⟩
    · obtain ⟨r, h1, h2, h3⟩ := ih (i + 1) (fun e he => h e (List.mem_cons_of_mem _ he))
      have hb : (kn == c) = false := by simpa using hk
      refine ⟨r, by simp only [hb]; exact h1, ?_, ?_⟩
      · have hq : keyIs kk kn e.key = false := by rw [hc]; simp [keyIs]; omega
        rw [h2, List.find?_cons, hq]
      · intro j v hj
        obtain ⟨h4, e', h5, h6⟩ := h3 j v hj
        refine ⟨by omega, e', ?_, h6⟩
        rw [← h5, show j - i = (j - (i + 1)) + 1 from by omega, List.getElem?_cons_succ]

theorem find_perm {α : Type} {p : α → Bool} {l1 l2 : List α} (h : l1.Perm l2) (hu : ∀ a ∈ l2, ∀ b ∈ l2, p a = true → p b = true → a = b) : l1.find? p = l2.find? p := by
  cases h2 : l2.find? p with
  | none =>
    rw [List.find?_eq_none] at h2 ⊢
    exact fun x hx => h2 x (h.mem_iff.1 hx)
  | some a =>
    have ha := List.find?_some h2
    have hm := List.mem_of_find?_eq_some h2
    cases h1 : l1.find? p with
    | none => rw [List.find?_eq_none] at h1; exact absurd ha (by simpa using h1 a (h.mem_iff.2 hm))
    | some b =>
      have hb := List.find?_some h1
      have hmb := h.mem_iff.1 (List.mem_of_find?_eq_some h1)
      rw [hu b hmb a hm hb ha]

theorem nodup_keys {es : List (Value × Value)} (hn : (es.map (·.1)).Nodup) : ∀ a ∈ es, ∀ b ∈ es, a.1 = b.1 → a = b := by
  induction es with
  | nil => simp
  | cons e es ih =>
    simp only [List.map_cons, List.nodup_cons, List.mem_map, not_exists, not_and] at hn
    intro a ha b hb hab
    rcases List.mem_cons.1 ha with ea | ha' <;> rcases List.mem_cons.1 hb with eb | hb' <;> (try subst ea) <;> (try subst eb)
    · rfl
    · exact absurd hab.symm (hn.1 b hb')
    · exact absurd hab (hn.1 a ha')
    · exact ih hn.2 a ha' b hb' hab

/-- What a look finds in the real map is what the abstract one has. -/
theorem map_find {es : List (Value × Value)} {es' : Array MapEntry} {kk : IntKind} {kn : Int} (hp : (es'.toList.map fun e => (e.key, e.val)).Perm (es.map fun e => (ren β e.1, ren β e.2)))
    (hn : (es.map (·.1)).Nodup) (hk : es.all (fun e => keyOf kk e.1) = true) :
    (∀ e ∈ es'.toList, keyOf kk e.key = true) ∧
    (es'.toList.find? fun e => keyIs kk kn e.key).map (·.val) = (es.find? fun e => keyIs kk kn e.1).map fun e => ren β e.2 := by
  have hk' : ∀ e ∈ es, keyOf kk e.1 = true := by simpa using hk
  have hall : ∀ e ∈ es'.toList, keyOf kk e.key = true := by
    intro e he
    have : (e.key, e.val) ∈ es.map fun e => (ren β e.1, ren β e.2) := hp.mem_iff.1 (List.mem_map_of_mem (f := fun e : MapEntry => (e.key, e.val)) he)
    obtain ⟨x, hx, hxe⟩ := List.mem_map.1 this
    obtain ⟨c, hc⟩ := keyOf_int (hk' x hx)
    simp only [Prod.mk.injEq] at hxe
    rw [← hxe.1, hc]; simp [ren, keyOf]
  refine ⟨hall, ?_⟩
  have hf := find_perm (p := fun x : Value × Value => keyIs kk kn x.1) hp (by
    intro a ha b hb h1 h2
    obtain ⟨x, hx, rfl⟩ := List.mem_map.1 ha
    obtain ⟨y, hy, rfl⟩ := List.mem_map.1 hb
    obtain ⟨c, hc⟩ := keyOf_int (hk' x hx)
    obtain ⟨d, hd⟩ := keyOf_int (hk' y hy)
    have e1 := keyIs_eq h1
    have e2 := keyIs_eq h2
    simp only [hc, hd, ren] at e1 e2
    have : x = y := nodup_keys hn x hx y hy (by rw [hc, hd, e1, e2])
    rw [this])
  have e1 : (es'.toList.map fun e => (e.key, e.val)).find? (fun x => keyIs kk kn x.1) = (es'.toList.find? fun e => keyIs kk kn e.key).map fun e => (e.key, e.val) := by
    rw [List.find?_map]; rfl
  have e2 : (es.map fun e => (ren β e.1, ren β e.2)).find? (fun x => keyIs kk kn x.1) = (es.find? fun e => keyIs kk kn e.1).map fun e => (ren β e.1, ren β e.2) := by
    rw [List.find?_map]
    congr 1
    have : ∀ l : List (Value × Value), (∀ e ∈ l, keyOf kk e.1 = true) → l.find? ((fun x : Value × Value => keyIs kk kn x.1) ∘ fun e => (ren β e.1, ren β e.2)) = l.find? fun e => keyIs kk kn e.1 := by
      intro l
      induction l with
      | nil => intro _; rfl
      | cons e l ih =>
        intro h
        obtain ⟨c, hc⟩ := keyOf_int (h e (List.mem_cons_self ..))
        simp only [List.find?_cons, Function.comp, hc, ren]
        split <;> first | rfl | exact ih fun e he => h e (List.mem_cons_of_mem _ he)
    exact this es hk'
  rw [e1, e2] at hf
  have := congrArg (Option.map (·.2)) hf
  simpa [Option.map_map, Function.comp_def] using this

theorem evQ_sound (hm : RelM β n m w) (hr : RelO β n sl ρ) {o : Oper} {v : Value} (h : evQ P m sl o = some v) :
    (execOp ρ o).run P w = .ok (.value (ren β v)) w ∧ blw n v = true := by
  obtain ⟨dst, op, type, pos, after, guard⟩ := o
  cases op
  case move x => have := hr x v h; exact ⟨by simp [execOp, this], this.2⟩
  case assign x => have := hr x v h; exact ⟨by simp [execOp, this], this.2⟩
  case pick c a b =>
    simp only [evQ] at h
    split at h
    · rename_i hc
      have h1 := hr c _ hc
      have h2 := hr a v h
      exact ⟨by simp [execOp, h1, h2, asBool, ren], h2.2⟩
    · rename_i hc
      have h1 := hr c _ hc
      have h2 := hr b v h
      exact ⟨by simp [execOp, h1, h2, asBool, ren], h2.2⟩
    · cases h
  case nilCheck x =>
    simp only [evQ] at h
    split at h
    · rename_i hx; simp only [Option.some.injEq] at h; subst h
      have h1 := hr x _ hx
      refine ⟨?_, h1.2⟩
      rename_i a
      obtain ⟨i, o, s⟩ := a
      simp [execOp, h1, ren, renPtr]
    · rename_i hx; simp only [Option.some.injEq] at h; subst h
      have h1 := hr x _ hx
      exact ⟨by simp [execOp, h1, ren], h1.2⟩
    · rename_i a b hx; simp only [Option.some.injEq] at h; subst h
      have h1 := hr x _ hx
      refine ⟨?_, h1.2⟩
      cases a; cases b
      simp [execOp, h1, ren, renFn]
    · rename_i a b hx; simp only [Option.some.injEq] at h; subst h
      have h1 := hr x _ hx
      refine ⟨?_, h1.2⟩
      cases a; cases b
      simp [execOp, h1, ren, renFn]
    · cases h
  case binOp op t x y yt =>
    simp only [evQ] at h
    split at h
    · rename_i a b ha hb
      have h1 := hr x _ ha
      have h2 := hr y _ hb
      have h3 := binA_sound (a := x) (b := y) hm h h1.2 h2.2
      refine ⟨?_, h3.2⟩
      simp only [execOp, h1.1, h2.1, Sem.run_bind, h3.1, Result.andThen_ok, Sem.run_pure]
    · cases h
  case unOp op t x =>
    simp only [evQ] at h
    split at h
    · rename_i a ha
      have h1 := hr x _ ha
      have h3 := unA_sound (P := P) (β := β) (n := n) (w := w) h
      refine ⟨?_, h3.2⟩
      simp only [execOp, h1.1, Sem.run_bind, h3.1, Result.andThen_ok, Sem.run_pure]
    · cases h
  case convert src dst x =>
    simp only [evQ] at h
    split at h
    · rename_i k nn k' d hx hu hs
      simp only [Option.some.injEq] at h; subst h
      have h1 := hr x _ hx
      refine ⟨?_, rfl⟩
      simp [execOp, Go.convert, run_und hu, run_und hs, h1.1, ren, Conv.intToInt]
    · rename_i s d hx hu hs
      simp only [Option.some.injEq] at h; subst h
      have h1 := hr x _ hx
      refine ⟨?_, rfl⟩
      simp only [execOp, Go.convert, run_und hu, run_und hs, h1.1, ren, Sem.run_bind, Result.andThen_ok]
      cases d <;> simp
    · cases h
  case makeInterface t x =>
    simp only [evQ] at h
    split at h
    · cases h
    · rename_i vv d hne hx hu
      simp only [Option.some.injEq] at h; subst h
      have h1 := hr x _ hx
      refine ⟨?_, by simp [blw, h1.2]⟩
      simp only [execOp, Instr.makeInterface, Sem.run_bind, run_und hu, Result.andThen_ok, h1.1]
      cases d <;> first | (exact absurd rfl (hne _ _)) | simp [ren]
    · cases h
  case makeFunc fn first cap =>
    simp only [evQ] at h
    split at h
    · rename_i a b ha hb
      split at h
      · simp only [Option.some.injEq] at h; subst h
        have ⟨h1, h2⟩ := evs_toList hr ha
        have ⟨h3, h4⟩ := evs_toList hr hb
        exact ⟨by simp [execOp, Instr.makeFunc, h1, h3, ren, renFn], by simp [blw, blwFn, h2, h4]⟩
      · cases h
    · cases h
  case build t parts =>
    simp only [evQ] at h
    split at h
    · rename_i z ps hz hps
      have ⟨hz1, hz2, hz3⟩ := zero_ren (P := P) (β := β) (n := n) (w := w) hz
      have ⟨hp1, hp2⟩ := hr.parts hps
      have hzc : z.cells = (renL β z.cells.toList).toArray := by
        have := ren_cells β z
        rw [hz2] at this
        rw [renL_eq]; exact this
      have hpa : (parts.map fun (i, x) => (i, ρ x)).toList = ps.map fun (i, v) => (i, ren β v) := by
        rw [← hp1]; simp
      split at h
      · rename_i fields hu
        split at h
        · rename_i cs hf
          split at h
          · rename_i hall
            simp only [Option.some.injEq] at h; subst h
            have hpl := run_places (w := w) fields.toList (by simpa using hall)
            refine ⟨?_, ?_⟩
            · have hfill := fillA_sound (β := β) hf
              have hpe : (fun i : Nat => ((fields.toList.map fun f => (f.offset, (szOf P f.type).getD 0)).toArray)[i]?) =
                  placeF P fields := by
                funext i
                unfold placeF
                simp only [List.getElem?_toArray, List.getElem?_map, Array.getElem?_toList]
                cases hfi : fields[i]? with
                | none => rfl
                | some f =>
                  have : (szOf P f.type).isSome = true := by
                    have := Array.all_eq_true_iff_forall_mem.1 hall f (Array.mem_of_getElem? hfi)
                    exact this
                  obtain ⟨s, hs⟩ := Option.isSome_iff_exists.1 this
                  simp [hs]
              rw [← hpe] at hfill
              have hmm : (fields.mapM (m := Sem) fun f => do pure (f.offset, ← sizeOf f.type)).run P w = .ok (fields.toList.map fun f => (f.offset, (szOf P f.type).getD 0)).toArray w := by
                rw [Array.mapM_eq_mapM_toList]
                simp only [Sem.run_map, hpl, Result.andThen_ok]
              simp only [execOp, Instr.build, Sem.run_bind, hz1, Result.andThen_ok, run_und hu, hmm]
              rw [hpa, hzc]
              simp only [hfill]
              simp [ren]
            · simp only [blw]
              exact fillA_blw hf (blw_cells hz3) hp2
          · cases h
        · cases h
      · rename_i len elem hu
        split at h
        · rename_i sz hs
          split at h
          · rename_i cs hf
            simp only [Option.some.injEq] at h; subst h
            refine ⟨?_, ?_⟩
            · have hfill := fillA_sound (β := β) hf
              simp only [execOp, Instr.build, Sem.run_bind, hz1, Result.andThen_ok, run_und hu, run_sz hs]
              rw [hpa, hzc]
              simp only [hfill]
              simp [ren]
            · simp only [blw]
              exact fillA_blw hf (blw_cells hz3) hp2
          · cases h
        · cases h
      · cases h
    · cases h
  case field t x f =>
    simp only [evQ] at h
    split at h
    · rename_i fields cs hu hx
      have h1 := hr x _ hx
      split at h
      · rename_i fd hf
        have h2 : blwL n cs = true := by simpa [blw] using h1.2
        have h3 := partA_sound (P := P) (β := β) (w := w) h2 h
        refine ⟨?_, h3.2⟩
        simp only [execOp, Instr.field, Sem.run_bind, run_und hu, Result.andThen_ok, hf, h1.1, ren, asAgg, Sem.run_pure, h3.1]
      · cases h
    · cases h
  case fieldAddr t x f =>
    simp only [evQ] at h
    split at h
    · rename_i fields i off hu hx
      have h1 := hr x _ hx
      split at h
      · rename_i fd hf
        split at h
        · rename_i k _ _ _ _ hs hg
          simp only [Option.some.injEq] at h; subst h
          have h2 := h1.2
          simp only [blw, Bool.and_eq_true] at h2
          refine ⟨?_, by simp only [blw, Bool.and_eq_true]; exact ⟨h2.1, rfl⟩⟩
          simp [execOp, Instr.fieldAt, run_und hu, hf, h1.1, ren, renPtr, Instr.sureAddr, fieldPlace, run_sz hs, addr_add]
          omega
        · cases h
      · cases h
    · cases h
  case indexAddr t x ix =>
    simp only [evQ] at h
    split at h
    · rename_i k i len elem b off e1 e2 e3
      have h1 := hr ix _ e1
      have h2 := hr x _ e3
      split at h
      · rename_i hi
        split at h
        · rename_i sz hs
          simp only [Option.some.injEq] at h; subst h
          have hx := h2.2
          simp only [blw, Bool.and_eq_true] at hx
          refine ⟨?_, by simp only [blw, Bool.and_eq_true]; exact ⟨hx.1, rfl⟩⟩
          simp [execOp, h1.1, h2.1, ren, renPtr, Instr.indexAt, asIntOf, run_und e2, Instr.sureAddr, hi, run_sz hs, addr_add]
          omega
        · cases h
      · cases h
    · rename_i k i elem b off s len cap e1 e2 e3
      have h1 := hr ix _ e1
      have h2 := hr x _ e3
      have hx := h2.2
      split at h
      · rename_i hi
        have hnil := live_nil hm hi.2.2
        have hi : 0 ≤ i ∧ i < len := ⟨hi.1, hi.2.1⟩
        split at h
        · rename_i sz hs
          split at h
          · simp only [Option.some.injEq] at h; subst h
            refine ⟨?_, by simp only [blw] at hx ⊢; simpa using hx⟩
            simp [execOp, h1.1, h2.1, ren, renPtr, renSlice, hnil, Instr.indexAt, asIntOf, run_und e2, Instr.sureAddr, hi, run_sz hs, addr_add]
            omega
          · rename_i t'
            split at h
            · rename_i hc
              simp only [Option.some.injEq] at h; subst h
              refine ⟨?_, by simp only [blw] at hx ⊢; simpa using hx⟩
              simp [execOp, h1.1, h2.1, ren, renPtr, renSlice, hnil, Instr.indexAt, asIntOf, run_und e2, Instr.sureAddr, hi, run_sz hs, addr_add, show ¬ (cap = 0 ∧ (β b).ex = 0) by omega]
              omega
            · cases h
        · cases h
      · cases h
    · cases h
  case index t x ix =>
    simp only [evQ] at h
    split at h
    · rename_i k i len elem cs e1 e2 e3
      have h1 := hr ix _ e1
      have h2 := hr x _ e3
      have hx : blwL n cs = true := by simpa [blw] using h2.2
      split at h
      · rename_i hi
        split at h
        · rename_i sz hs
          have h3 := partA_sound (P := P) (β := β) (w := w) hx h
          refine ⟨?_, h3.2⟩
          simp only [execOp, Instr.index, Sem.run_bind, h1.1, h2.1, ren, asIntOf, Sem.run_pure, Result.andThen_ok, run_und e2, if_pos hi, run_sz hs, h3.1]
        · cases h
      · cases h
    · rename_i k i s e1 e2 e3
      have h1 := hr ix _ e1
      have h2 := hr x _ e3
      split at h
      · rename_i hi
        split at h
        · rename_i b hb
          simp only [Option.some.injEq] at h; subst h
          exact ⟨by simp [execOp, Instr.index, h1.1, h2.1, ren, asIntOf, run_und e2, hi, hb], rfl⟩
        · cases h
      · cases h
    · cases h
  case slice t x lo hi mx =>
    simp only [evQ] at h
    have opt : ∀ {q : Option Operand} {r : Option Value}, (match q with | some v => (evO sl v).map some | none => some none) = some r → q.map ρ = r.map (ren β) := by
      intro q r hq
      cases q with
      | none => simp only [Option.some.injEq] at hq; subst hq; rfl
      | some q =>
        simp only [Option.map_eq_some_iff] at hq
        obtain ⟨u, hu, rfl⟩ := hq
        simp [hr q u hu]
    split at h
    · rename_i elem len cap lo' hi' mx' hu hx hlo hhi hmx
      have h1 := hr x _ hx
      split at h
      · rename_i sz l hh mm hs hb
        simp only [Option.some.injEq] at h; subst h
        refine ⟨?_, rfl⟩
        simp only [execOp, opt hlo, opt hhi, opt hmx, h1.1, ren, Sem.run_bind]
        have : (Instr.sliceAt t (.slice none len cap) (lo'.map (ren β)) (hi'.map (ren β)) (mx'.map (ren β))).run P w = .ok (.slice none (hh - l) (mm - l)) w := by
          simp [Instr.sliceAt, run_und hu, Instr.slice, boundsA_sound (P := P) (β := β) (w := w) hb, run_sz hs]
        rw [this]; rfl
      · cases h
    · rename_i elem i o s len cap lo' hi' mx' hu hx hlo hhi hmx
      have h1 := hr x _ hx
      split at h
      · rename_i sz hs
        have hx := h1.2
        simp only [blw] at hx
        have h3 := resliceA_sound (P := P) (β := β) (w := w) hu hs hx h
        refine ⟨?_, h3.2⟩
        simp only [execOp, opt hlo, opt hhi, opt hmx, h1.1, Sem.run_bind]
        have : (Instr.sliceAt t (ren β (.slice (some ⟨i, o, s⟩) len cap)) (lo'.map (ren β)) (hi'.map (ren β)) (mx'.map (ren β))).run P w = .ok (ren β v) w := by
          unfold Instr.sliceAt
          simp only [Sem.run_bind, run_und hu, Result.andThen_ok, h3.1]
        rw [this]; rfl
      · cases h
    · cases h
  case extract x i =>
    simp only [evQ] at h
    split at h
    · rename_i vs hx
      have h1 := hr x _ hx
      have h2 : blwL n vs = true := by simpa [blw] using h1.2
      refine ⟨?_, blwL_get h2 h⟩
      simp [execOp, h1.1, ren, Instr.extract, renL_eq, h]
    · cases h
  case typeAssert x xt asserted ok =>
    simp only [evQ] at h
    split at h
    · cases h
    · rename_i d t vv hne hu hx
      have h1 := hr x _ hx
      have hb : blw n vv = true := by simpa [blw] using h1.2
      split at h
      · rename_i ht
        simp only [Option.some.injEq] at h; subst h
        refine ⟨?_, by split <;> simp [blw, blwL, hb]⟩
        simp only [execOp, Instr.typeAssert, Sem.run_bind, run_und hu, Result.andThen_ok, h1.1, ren]
        cases d <;> first | (exact absurd rfl (hne _ _)) | (simp [ht]; cases ok <;> simp [ren, renL])
      · rename_i ht
        split at h
        · rename_i hok
          split at h
          · rename_i z hz
            simp only [Option.some.injEq] at h; subst h
            have ⟨hz1, hz2, hz3⟩ := zero_ren (P := P) (β := β) (n := n) (w := w) hz
            refine ⟨?_, by simp [blw, blwL, hz3]⟩
            simp only [execOp, Instr.typeAssert, Sem.run_bind, run_und hu, Result.andThen_ok, h1.1, ren]
            cases d <;> first | (exact absurd rfl (hne _ _)) | simp [ht, hok, hz1, renL, ren, hz2]
          · cases h
        · cases h
    · cases h
  case load t a =>
    simp only [evQ] at h
    split at h
    · rename_i x hx
      have h1 := hr a _ hx
      have h2 := loadA_sound hm h
      exact ⟨by simp only [execOp, Sem.run_bind, h1.1, h2.1, Result.andThen_ok, Sem.run_pure], h2.2⟩
    · cases h
  case lookup t x k ok =>
    simp only [evQ] at h
    split at h
    · rename_i kt elem mp kk kn hu hx hk
      have h1 := hr x _ hx
      have h2 := hr k _ hk
      split at h
      · rename_i k0 z hkt hz
        have ⟨hz1, hz2, hz3⟩ := zero_ren (P := P) (β := β) (n := n) (w := w) hz
        split at h
        · rename_i es hes
          split at h
          · rename_i hall
            have tail : ∀ es' : Array MapEntry, (∀ e ∈ es'.toList, keyOf kk e.key = true) →
                (es'.toList.find? fun e => keyIs kk kn e.key).map (·.val) = ((es.find? fun e => keyIs kk kn e.1).map fun e => ren β e.2) →
                (ren β mp = .map none ∧ es' = #[] ∨ ∃ r clk, ren β mp = .map (some r) ∧ w.heap[r]? = some (.map es' clk)) →
                (Instr.lookup t (ren β mp) (.int kk kn) ok).run P w = .ok (ren β v) w := by
              intro es' he2 he3 hmp
              obtain ⟨r, hf1, hf2, _⟩ := findNow_int k0 kk kn es'.toList 0 he2
              rw [he3] at hf2
              have hv : ren β v = (match r with
                | some x => if ok then .tuple #[x.2, .bool true] else x.2
                | none => if ok then .tuple #[z, .bool false] else z) := by
                split at h
                · rename_i e hfe
                  simp only [Option.some.injEq] at h; subst h
                  rw [hfe] at hf2
                  cases r with
                  | none => simp at hf2
                  | some x => simp only [Option.map_some, Option.some.injEq] at hf2; cases ok <;> simp [ren, renL, hf2]
                · rename_i hfe
                  simp only [Option.some.injEq] at h; subst h
                  rw [hfe] at hf2
                  cases r with
                  | none => cases ok <;> simp [ren, renL, hz2]
                  | some x => simp at hf2
              rw [hv]
              rcases hmp with ⟨e1, rfl⟩ | ⟨r', clk, e1, e2⟩
              · simp only [Instr.lookup, Sem.run_bind, run_und hu, Result.andThen_ok, e1, Sem.run_pure, run_checkKey_int (d := 9999) hkt, Instr.findKey, run_und hkt, hf1]
                cases r with
                | none => simp [hz1]
                | some r => simp
              · simp only [Instr.lookup, Sem.run_bind, run_und hu, Result.andThen_ok, e1, run_getObj_map e2, Sem.run_pure, run_checkKey_int (d := 9999) hkt, Instr.findKey, run_und hkt, hf1]
                cases r with
                | none => simp [hz1]
                | some r => simp
            have both : (Instr.lookup t (ren β mp) (.int kk kn) ok).run P w = .ok (ren β v) w ∧ ∀ e ∈ es, blw n e.2 = true := by
              unfold mapOf at hes
              split at hes
              · simp only [Option.some.injEq] at hes; subst hes
                exact ⟨tail #[] (by simp) (by simp) (.inl ⟨by simp [ren], rfl⟩), by simp⟩
              · rename_i r
                split at hes
                · rename_i es0 clk hg
                  simp only [Option.some.injEq] at hes; subst hes
                  obtain ⟨_, ho1, ho2, ho3, es', ho4, ho5, _⟩ := hm.obj _ _ hg
                  have := map_find (kn := kn) ho5 ho3 hall
                  exact ⟨tail es' this.1 this.2 (.inr ⟨_, clk, by simp [ren], ho4⟩), fun e he => (ho2 e he).2⟩
                · cases hes
              · cases hes
            refine ⟨?_, ?_⟩
            · simp only [execOp, h1.1, h2.1, ren_int, Sem.run_bind, both.1, Result.andThen_ok, Sem.run_pure]
            · split at h
              · rename_i e hfe
                simp only [Option.some.injEq] at h; subst h
                have := both.2 e (List.mem_of_find?_eq_some hfe)
                split <;> simp [blw, blwL, this]
              · simp only [Option.some.injEq] at h; subst h
                split <;> simp [blw, blwL, hz3]
          · cases h
        · cases h
      · cases h
    · cases h
  case entry x =>
    simp only [evQ] at h
    split at h
    · rename_i r hx
      have h1 := hr x _ hx
      split at h
      · rename_i mp since left kk kn hg
        split at h
        · rename_i es clk hgm
          split at h
          · rename_i hclk
            split at h
            · rename_i e hfe
              simp only [Option.some.injEq] at h; subst h
              obtain ⟨_, hi1, hi0, seen, stepped, hi2, hi3⟩ := hm.obj _ _ hg
              obtain ⟨_, ho1, ho2, ho3, es', ho4, ho5, ho6, ho7⟩ := hm.obj _ _ hgm
              obtain ⟨hi4, hi5⟩ := hi3 mp rfl
              obtain ⟨_, hi6⟩ := hi5 es' clk ho4
              obtain ⟨hi7, hi8, hi9⟩ := hi6 hclk
              obtain ⟨st, hst, hst2⟩ := hi9 _ rfl
              have hke := keyIs_eq (List.find?_some (p := fun e : Value × Value => keyIs kk kn e.1) hfe)
              have hme := List.mem_of_find?_eq_some hfe
              -- the entry with the stamp
              have : (ren β e.1, ren β e.2) ∈ es'.toList.map fun e => (e.key, e.val) := ho5.mem_iff.2 (List.mem_map_of_mem (f := fun e : Value × Value => (ren β e.1, ren β e.2)) hme)
              obtain ⟨e', he', hee⟩ := List.mem_map.1 this
              simp only [Prod.mk.injEq] at hee
              have hk' : e'.key = .int kk kn := by rw [hee.1, hke]; rfl
              have hb' : e'.born = st := (hst2 e' he').2 hk'
              have hfind : es'.find? (·.born == st) = some e' := by
                rw [← Array.find?_toList]
                cases hq : es'.toList.find? (·.born == st) with
                | none =>
                  rw [List.find?_eq_none] at hq
                  exact absurd hb' (by simpa using hq e' he')
                | some e2 =>
                  have h2 := List.find?_some hq
                  have h3 := List.mem_of_find?_eq_some hq
                  have : e2.born = e'.born := by simp at h2; rw [h2, hb']
                  congr 1
                  have nod : ∀ l : List MapEntry, (l.map (·.born)).Nodup → ∀ a ∈ l, ∀ b ∈ l, a.born = b.born → a = b := by
                    intro l
                    induction l with
                    | nil => simp
                    | cons c l ih =>
                      intro hn a ha b hb hab
                      simp only [List.map_cons, List.nodup_cons, List.mem_map, not_exists, not_and] at hn
                      rcases List.mem_cons.1 ha with ea | ha' <;> rcases List.mem_cons.1 hb with eb | hb' <;> (try subst ea) <;> (try subst eb)
                      · rfl
                      · exact absurd hab.symm (hn.1 b hb')
                      · exact absurd hab (hn.1 a ha')
                      · exact ih hn.2 a ha' b hb' hab
                  exact nod _ ho7 e2 h3 e' he' this
              have hstep : stepped = since := hi8 (by
                cases hse : seen.isEmpty with
                | false => rfl
                | true => simp only [Array.isEmpty_iff] at hse; subst hse; simp at hst)
              have hsh : (β r).nil = false := hi1
              refine ⟨?_, by have := ho2 e hme; simp [blw, blwL, this]⟩
              have hgi : (getObj (β r).blk).run P w = .ok (.mapIter (some (β mp).blk) since seen stepped) w := by
                simp [getObj, Sem.run, hi2]
              simp only [execOp, Instr.entry, Sem.run_bind, h1.1, ren, renPtr, hi0, Nat.zero_add, hgi, Result.andThen_ok, hst, run_getObj_map ho4, hstep, hclk, bne_self_eq_false, Bool.false_eq_true, if_false, hfind,
                Sem.run_pure, renL, hee.1, hee.2]
            · cases h
          · cases h
        · cases h
      · cases h
    · cases h
  case call c =>
    obtain ⟨callee, args, argTypes⟩ := c
    cases callee with
    | value f => simp [evQ] at h
    | invoke r nm => simp [evQ] at h
    | builtin b =>
      cases b
      case len =>
        simp only [evQ] at h
        split at h
        · rename_i t x ht hx
          have ⟨ha, hb⟩ := evs_toList hr hx
          have hat : argTypes[0]? = some t := by
            have : argTypes = #[t] := by apply Array.ext'; simpa using ht
            simp [this]
          have hrun : ∀ i : Int, (Builtin.len_ argTypes type (args.map ρ)).run P w = .ok (.int .i64 i) w →
              (execOp ρ { dst := dst, op := .call { callee := .builtin .len, args := args, argTypes := argTypes }, type := type, pos := pos, after := after, guard := guard }).run P w = .ok (.value (.int .i64 i)) w := by
            intro i hi
            simp only [execOp, resolve, Sem.run_bind, Sem.run_pure, Result.andThen_ok, invoke, builtin, hi]
          split at h
          · rename_i e a len cap hu
            simp only [Option.some.injEq] at h; subst h
            refine ⟨hrun _ ?_, rfl⟩
            rw [ha]
            obtain ⟨ad, c, e⟩ : ∃ ad c, ren β (.slice a len cap) = .slice ad len c := by
              cases a with
              | none => exact ⟨_, _, rfl⟩
              | some a => obtain ⟨i, o, s⟩ := a; simp only [ren]; exact renSlice_form ..
            simp [Builtin.len_, hat, renL, e, run_und hu, goInt]
          · rename_i len e hu
            simp only [Option.some.injEq] at h; subst h
            refine ⟨hrun _ ?_, rfl⟩
            rw [ha]
            simp [Builtin.len_, hat, renL, run_und hu, goInt]
          · rename_i k e hu
            simp only [Option.some.injEq] at h; subst h
            refine ⟨hrun _ ?_, rfl⟩
            rw [ha]
            simp [Builtin.len_, hat, renL, ren, run_und hu, goInt]
          · rename_i k e r hu
            split at h
            · rename_i es clk hg
              simp only [Option.some.injEq] at h; subst h
              obtain ⟨_, ho1, ho2, ho3, es', ho4, ho5, _⟩ := hm.obj _ _ hg
              refine ⟨hrun _ ?_, rfl⟩
              rw [ha]
              have := ho5.length_eq
              simp only [List.length_map, Array.length_toList] at this
              simp [Builtin.len_, hat, renL, ren, run_und hu, goInt, run_getObj_map ho4, this]
            · cases h
          · rename_i s hu
            simp only [Option.some.injEq] at h; subst h
            refine ⟨hrun _ ?_, rfl⟩
            rw [ha]
            simp [Builtin.len_, hat, renL, ren, run_und hu, goInt]
          · cases h
        · cases h
      case max =>
        simp only [evQ] at h
        split at h
        · rename_i k x k' y hx
          have ⟨ha, hb⟩ := evs_toList hr hx
          simp only [Option.some.injEq] at h; subst h
          refine ⟨?_, rfl⟩
          simp [execOp, resolve, invoke, builtin, Builtin.max_, ha, renL, ren, Builtin.max2]
        · cases h
      case min =>
        simp only [evQ] at h
        split at h
        · rename_i k x k' y hx
          have ⟨ha, hb⟩ := evs_toList hr hx
          simp only [Option.some.injEq] at h; subst h
          refine ⟨?_, rfl⟩
          simp [execOp, resolve, invoke, builtin, Builtin.min_, ha, renL, ren, Builtin.min2]
        · cases h
      all_goals simp [evQ] at h
  all_goals simp [evQ] at h
end
end Go.Ab
