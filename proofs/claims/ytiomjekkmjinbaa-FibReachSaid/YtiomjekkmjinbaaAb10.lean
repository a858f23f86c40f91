/- append, copy, clear: sound. -/
import Derived.Test.YtiomjekkmjinbaaAb9
namespace Go.Ab
open Go

section
variable {P : Program} {β : Beta} {n : Dm} {m : Mem} {w : World} {sl : Slots} {ρ : Operand → Value}

theorem cells_nil (hm : RelM β n m w) {i : Nat} {cs : List Value} (hc : cellsOf m i = some cs) (h : 0 < cs.length) : (β i).nil = false := by
  obtain ⟨v, hv⟩ : ∃ v, cs[0]? = some v := ⟨cs[0], by simp [h]⟩
  exact (cell_of hm hc hv).2.2

/-- A slice's first cells, read. -/
theorem sliceCells_sound (hm : RelM β n m w) {sz k : Nat} {a : Option Addr} {len cap : Nat} {cs : List Value} (h : sliceCells m sz k (.slice a len cap) = some cs) :
    (Builtin.firstCells sz k (ren β (.slice a len cap))).run P w = .ok (renL β cs).toArray w ∧ blwL n cs = true ∧ cs.length = k * sz := by
  cases a with
  | none =>
    simp only [sliceCells] at h
    split at h
    · rename_i hk; simp only [Option.some.injEq] at h; subst h; exact ⟨by simp [ren, Builtin.firstCells, renL], rfl, by simp [hk]⟩
    · cases h
  | some a =>
    obtain ⟨i, o, s⟩ := a
    simp only [sliceCells] at h
    split at h
    · rename_i hk
      have key : ∀ (t : Nat) (cs0 : List Value), cellsOf m i = some cs0 → takeAt cs0 t (k * sz) = some cs → (∀ v, (β i).nil = false → ren β (.slice (some ⟨i, o, s⟩) len cap) = v →
          (0 < k * sz → ∃ c, v = .slice (some ⟨(β i).blk, t + (β i).sh, none⟩) len c)) →
          (Builtin.firstCells sz k (ren β (.slice (some ⟨i, o, s⟩) len cap))).run P w = .ok (renL β cs).toArray w ∧ blwL n cs = true ∧ cs.length = k * sz := by
        intro t cs0 hc ht hv
        obtain ⟨h1, h2, h3⟩ := takeAt_spec ht
        have hb : blwL n cs = true := by
          rw [blwL_eq, List.all_eq_true]
          intro v hv
          obtain ⟨j, hj⟩ := List.mem_iff_getElem?.1 hv
          exact (cell_of hm hc (h2 j v hj)).2.1
        refine ⟨?_, hb, h1⟩
        by_cases h0 : 0 < k * sz
        · have hn := cells_nil hm hc (by omega)
          obtain ⟨c, e⟩ := hv _ hn rfl h0
          rw [e]
          have e2 : k * sz = (renL β cs).length := by rw [renL_eq]; simp [h1]
          simp only [Builtin.firstCells]
          rw [e2]
          refine run_loadCells' _ _ fun j u hj => ?_
          rw [renL_eq, List.getElem?_map, Option.map_eq_some_iff] at hj
          obtain ⟨u', hj, rfl⟩ := hj
          rw [addr_add]
          have := (cell_of hm hc (h2 j u' hj)).1
          rw [← this]; congr 2; omega
        · have e0 : k * sz = 0 := by omega
          have ecs : cs = [] := List.eq_nil_of_length_eq_zero (by omega)
          subst ecs
          obtain ⟨ad, c, e⟩ := renSlice_form (β i) o s len cap
          simp only [ren, e]
          cases ad with
          | none => simp [Builtin.firstCells, renL]
          | some ad => simp [Builtin.firstCells, e0, loadCells, loadCellsFrom, renL]
      split at h
      · rename_i cs0 hc
        obtain ⟨h1, h2, h3⟩ := key o cs0 hc h (fun v hn e h0 => by subst e; exact ⟨cap, by simp [ren, renSlice, hn]⟩)
        exact ⟨h1, h2, h3⟩
      · rename_i cs0 t hc
        split at h
        · rename_i hcap
          obtain ⟨h1, h2, h3⟩ := key t cs0 hc h (fun v hn e h0 => by
            subst e
            have : 0 < cap := by rcases hcap with h | h; exact h; simp [h] at h0
            exact ⟨cap + (β i).ex, by simp only [ren, renSlice, hn, Bool.false_eq_true, if_false, if_neg (show ¬ cap + (β i).ex = 0 by omega)]⟩)
          exact ⟨h1, h2, h3⟩
        · cases h
      · cases h
    · cases h

theorem grow_le (newLen : Nat) : ∀ (r c : Nat), c ≤ newLen → Builtin.growBy newLen r c ≤ 2 * newLen + 256 := by
  intro r
  induction r with
  | zero => intro c h; simp [Builtin.growBy]; omega
  | succ r ih =>
    intro c h
    simp only [Builtin.growBy]
    split
    · omega
    · by_cases h2 : c + (c + 768) / 4 ≤ newLen
      · exact ih _ h2
      · have : ∀ r c', newLen ≤ c' → Builtin.growBy newLen r c' = c' := by
          intro r c' hc
          cases r with
          | zero => rfl
          | succ r => simp only [Builtin.growBy]; rw [if_pos (by omega)]
        rw [this _ _ (by omega)]; omega
theorem next_le {need old : Nat} (h : old < need) : Builtin.nextslicecap need old ≤ 2 * need + 256 := by
  unfold Builtin.nextslicecap
  split
  · omega
  · split
    · omega
    · exact grow_le _ _ _ (by omega)

theorem zeroCells_eq (z : Array Value) (k : Nat) (hz : 0 < k * z.size → 0 < z.size) : Builtin.zeroCells z k = (List.replicate k z.toList).flatten.toArray := zeros_eq z k hz

theorem growBlock (hm : RelM β n m w) {elem : TypeId} {sz : Nat} {cs : List Value} (hb : blwL n cs = true) {m0 : Mem} (hsub : ∀ j o, j ≠ n.n → m0.get j = some o → m.get j = some o) {d : Nat} {rest : Array Value} {ex : Nat}
    (hrest : ex * sz ≤ rest.size) : 
    Ex β n m w (upd β n.n ⟨w.heap.size, 0, ex, false, none⟩) (n.up (n.n + 1)) (m0.set n.n (.cells none elem sz cs))
      { w with drawn := d, heap := w.heap.push (.cells ((renL β cs).toArray ++ rest) elem) } := by
  refine Ex.one hm n.n (fun _ => False) (Dm.le_up (by omega)) (hol_up hm.hol (by omega)) (fun i hi => upd_fr β _ (has_n n) hi) rfl rfl rfl (by simp) (fun b hb' _ => ?_) (by simp) (fun j oj hj hg => ?_) (by simp) (fun o' ho' => ?_)
  · simp [Array.getElem?_push, Nat.ne_of_lt hb']
  · rw [Tr.get_set, if_neg (Ne.symm hj)] at hg; exact ⟨hsub j oj hj hg, by simp⟩
  · rw [Tr.get_set, if_pos rfl] at ho'
    simp only [Option.some.injEq] at ho'; subst ho'
    rw [upd_self]
    refine ⟨has_up hm.hol, ?_, fun _ => .inl (Nat.le_refl _), rfl⟩
    refine ObjR.fresh (c := (renL β cs).toArray ++ rest) (by simp) (blwL_mono' (Dm.le_up (by omega)) hb) (fun i v hv => ?_) (by simp [renL_eq]; omega)
    have e := ren_agree (γ := upd β n.n ⟨w.heap.size, 0, ex, false, none⟩) (n := n) (β := β) (fun i hi => upd_fr β _ (has_n n) hi) v (blwL_get hb hv)
    have hlt : i < cs.length := (List.getElem?_eq_some_iff.1 hv).1
    rw [renL_eq, e, Array.getElem?_append_left (by simpa using hlt)]
    simp [hv]

/-- The abstract block that an append in the spare room of a block leaves. -/
theorem growInPlace (hm : RelM β n m w) {i : Nat} {elem : TypeId} {sz : Nat} {cs cs' : List Value} (hg : m.get i = some (.cells none elem sz cs)) (hb : blwL n cs' = true) {t ex : Nat} {w' : World} {c' : Array Value}
    (hself : w'.heap[(β i).blk]? = some (.cells c' elem (0, 0))) (hbk : ∀ b, b ≠ (β i).blk → w'.heap[b]? = w.heap[b]?) (hsize : w'.heap.size = w.heap.size)
    (os : w'.os = w.os) (tape : w'.tape = w.tape) (output : w'.output = w.output)
    (hc : ∀ k v, cs'[k]? = some v → c'[k + ((β i).sh + t)]? = some (ren β v)) (hsz : (β i).sh + t + cs'.length + ex * sz ≤ c'.size) :
    Ex β n m w (upd β n.n ⟨(β i).blk, (β i).sh + t, ex, false, none⟩) (n.up (n.n + 1)) ((m.del i).set n.n (.cells none elem sz cs')) w' := by
  obtain ⟨hin, hn, hb0, c, hh, hc0, hsz0⟩ := hm.obj i _ hg
  have hlt : (β i).blk < w.heap.size := (Array.getElem?_eq_some_iff.1 hh).1
  have sub : ∀ j o, j ≠ n.n → ((m.del i).set n.n (.cells none elem sz cs')).get j = some o → j ≠ i ∧ m.get j = some o := by
    intro j o hj hgj
    rw [Tr.get_set, if_neg (Ne.symm hj), Tr.get_del] at hgj
    split at hgj
    · cases hgj
    · rename_i h; exact ⟨Ne.symm h, hgj⟩
  refine Ex.one hm n.n (fun b => b = (β i).blk) (Dm.le_up (by omega)) (hol_up hm.hol (by omega)) (fun i hi => upd_fr β _ (has_n n) hi) os tape output (by omega) (fun b _ hb => hbk b hb) (fun b hb => ⟨i, _, hg, rfl, hb.symm⟩)
    (fun j o hj ho => ?_) (fun j mp since left cur hj hgj ht hr => ?_) (fun o ho => ?_)
  · obtain ⟨h1, h2⟩ := sub j o hj ho
    exact ⟨h2, fun hnj e => hm.dis i j _ o (Ne.symm h1) hg h2 rfl hnj e.symm⟩
  · obtain ⟨h1, h2, seen, stepped, h3, h4⟩ := hr
    obtain ⟨h5, h6⟩ := sub j _ hj hgj
    have hne : (β j).blk ≠ (β i).blk := hm.dis j i _ _ h5 h6 hg rfl hn
    refine ⟨h1, h2, seen, stepped, by rw [hbk _ hne]; exact h3, fun mp' e => ?_⟩
    cases e
    refine ⟨⟨(h4 mp rfl).1.1, by rw [hsize]; exact (h4 mp rfl).1.2⟩, fun es' clk' hes => ?_⟩
    have : (β mp).blk = (β i).blk := ht
    rw [this, hself] at hes
    cases hes
  · rw [Tr.get_set, if_pos rfl] at ho
    simp only [Option.some.injEq] at ho; subst ho
    rw [upd_self]
    refine ⟨has_up hm.hol, ⟨rfl, blwL_mono' (Dm.le_up (by omega)) hb, c', hself, fun k v hk => ?_, hsz⟩, fun _ => .inr rfl, rfl⟩
    rw [ren_agree (γ := upd β n.n _) (n := n) (β := β) (fun i hi => upd_fr β _ (has_n n) hi) v (blwL_get hb hk)]
    exact hc k v hk

theorem wrap64 {x : Int} (h : 0 ≤ x) (h' : x ≤ 2 ^ 62) : IntKind.i64.wrap x = x := by
  have e : x % (2 ^ 64 : Int) = x := Int.emod_eq_of_lt h (by omega)
  unfold IntKind.wrap
  simp only [IntKind.bits, IntKind.signed]
  show (if (true && decide (x % (2 ^ 64 : Int) ≥ (2 ^ (64 - 1) : Int))) = true then _ else _) = _
  rw [e, if_neg]
  simp; omega

theorem RelM.heap (hm : RelM β n m w) {w' : World} (h : w'.heap = w.heap) : RelM β n m w' :=
  ⟨hm.hol, fun i o hg => have ⟨h1, h2⟩ := hm.obj i o hg; ⟨h1, h2.world (by rw [h]; exact Nat.le_refl _) (fun _ => by rw [h]) (fun _ _ _ _ _ => by rw [h])⟩, hm.dis⟩

theorem zeros_run {z : Value} {info : TypeInfo} {elem : TypeId} {k : Nat} (hz : zeroOf P elem = some z) (hzs : z.cells.size = info.size) :
    (if k * info.size = 0 then (pure #[] : Sem (Array Value)) else do pure (Builtin.zeroCells (← zeroValue elem).cells k)).run P w = .ok (renL β (List.replicate k z.cells.toList).flatten).toArray w := by
  have ⟨hz1, hz2, hz3⟩ := zero_ren (P := P) (β := β) (n := Dm.none) (w := w) hz
  have hzr : renL β z.cells.toList = z.cells.toList := by
    have := congrArg Array.toList (ren_cells β z)
    rw [hz2] at this
    rw [renL_eq]; simpa using this.symm
  rw [flat_rep, hzr]
  have hrow := zeroCells_eq z.cells k (fun h => Nat.pos_of_ne_zero (by rintro e; simp [e] at h))
  split
  · rename_i e0
    have : (List.replicate k z.cells.toList).flatten = [] := by
      refine List.eq_nil_of_length_eq_zero ?_
      simpa [hzs] using e0
    rw [this]; rfl
  · simp [hz1, hrow]

theorem not_int {u1 : TypeDesc} (h : ∀ k, u1 = TypeDesc.int k → False) : (match u1 with | .int _ => true | _ => false) = false := by
  cases u1 <;> first | rfl | exact (h _ rfl).elim

/-- An append whose length fits the capacity. -/
theorem append_room {argTypes : Array TypeId} {type t0 t1 elem : TypeId} {base : Option Addr} {sLen sCap k : Nat} {x z : Value} {u1 : TypeDesc} {info : TypeInfo} {xs : List Value} {w' : World}
    (h0 : argTypes[0]? = some t0) (h1 : argTypes[1]? = some t1) (hu : P.underlying t0 = some (.slice elem)) (hi : P.info? elem = some info) (hz : zeroOf P elem = some z) (hu1 : P.underlying t1 = some u1)
    (hm : RelM β n m w) (ha : appArg m z info u1 x = some (k, xs)) (hzs : z.cells.size = info.size) (hle : sLen + k ≤ sCap)
    (hst : ∀ a, base = some a → (storeCells (a.add (sLen * info.size)) (renL β xs)).run P w = .ok () w') (hst0 : base = none → w' = w) :
    (Builtin.append_ argTypes type #[.slice base sLen sCap, ren β x]).run P w = .ok (.slice base (sLen + k) sCap) w' := by
  have hsz : (sizeOf elem).run P w = .ok info.size w := by simp [sizeOf, typeInfo, hi]
  unfold appArg at ha
  split at ha
  · rename_i kk k2 c
    split at ha
    · rename_i hc
      simp only [Option.some.injEq, Prod.mk.injEq] at ha
      obtain ⟨rfl, rfl⟩ := ha
      have hw : IntKind.i64.wrap c = c := wrap64 hc.1 (by omega)
      have hzr := zeros_run (P := P) (β := β) (w := w) (k := c.toNat) hz hzs
      simp only [Sem.run_ite, Sem.run_bind, Sem.run_pure] at hzr
      simp only [Builtin.append_, h0, h1, Sem.run_bind, run_und hu, Result.andThen_ok, hsz, run_und hu1, Sem.run_pure, if_true, ren, asInt, asIntOf, hw, Sem.run_ite, if_neg (show ¬ c < 0 by omega), run_info hi,
        if_neg (show ¬ c * (info.bytes : Int) > 2 ^ 48 by omega), List.getElem?_toArray, List.getElem?_cons_zero, List.getElem?_cons_succ, if_pos hle, Bool.not_true, Bool.false_eq_true, if_false, hzr]
      cases base with
      | none => simp [hst0 rfl]
      | some a => simp [hst a rfl]
    · cases ha
  · cases ha
  · rename_i a k2 cap hne
    simp only [Option.map_eq_some_iff, Prod.mk.injEq] at ha
    obtain ⟨cs, hcs, rfl, rfl⟩ := ha
    obtain ⟨ad, c, e⟩ : ∃ ad c, ren β (.slice a k2 cap) = .slice ad k2 c := by
      cases a with
      | none => exact ⟨_, _, rfl⟩
      | some a => obtain ⟨i, o, s⟩ := a; simp only [ren]; exact renSlice_form ..
    have hfc := (sliceCells_sound (P := P) hm hcs).1
    rw [e] at hfc ⊢
    simp only [Builtin.append_, h0, h1, Sem.run_bind, run_und hu, Result.andThen_ok, hsz, run_und hu1, Sem.run_pure, List.getElem?_toArray, List.getElem?_cons_zero, List.getElem?_cons_succ,
      Bool.false_eq_true, if_false, Builtin.lenOf, if_pos hle, Bool.not_false, if_true, hfc]
    cases base with
    | none => simp [hst0 rfl]
    | some a => simp [hst a rfl]
  · cases ha

/-- An append that grows. -/
theorem append_grow {argTypes : Array TypeId} {type t0 t1 elem : TypeId} {base : Option Addr} {sLen sCap k : Nat} {x z : Value} {u1 : TypeDesc} {info : TypeInfo} {xs : List Value} {old : Array Value}
    (h0 : argTypes[0]? = some t0) (h1 : argTypes[1]? = some t1) (hu : P.underlying t0 = some (.slice elem)) (hi : P.info? elem = some info) (hz : zeroOf P elem = some z) (hu1 : P.underlying t1 = some u1)
    (hm : RelM β n m w) (ha : appArg m z info u1 x = some (k, xs)) (hzs : z.cells.size = info.size) (hle : ¬ sLen + k ≤ sCap) (hsmall : (2 * (sLen + k) + 256) * info.bytes ≤ 2 ^ 48) (hs40 : sLen + k ≤ 2 ^ 40)
    (hold : ∀ w' : World, w'.heap = w.heap → (Builtin.firstCells info.size sLen (.slice base sLen sCap)).run P w' = .ok old w') :
    ∃ cap rest, sLen + k ≤ cap ∧ rest.size = (cap - (sLen + k)) * info.size ∧
      (Builtin.append_ argTypes type #[.slice base sLen sCap, ren β x]).run P w = .ok (.slice (some ⟨w.heap.size, 0, none⟩) (sLen + k) cap)
        { w with drawn := w.drawn + 1, heap := w.heap.push (.cells (old ++ (renL β xs).toArray ++ rest) elem) } := by
  have ⟨hz1, hz2, hz3⟩ := zero_ren (P := P) (β := β) (n := n) (w := w) hz
  have hz1' : ∀ w' : World, (zeroValue elem).run P w' = .ok z w' := fun w' => (zero_ren (P := P) (β := β) (n := n) (w := w') hz).1
  have hsz : ∀ w' : World, (sizeOf elem).run P w' = .ok info.size w' := fun w' => by simp [sizeOf, typeInfo, hi]
  have hnc := next_le (need := sLen + k) (old := sCap) (by omega)
  have hnb : ¬ Builtin.nextslicecap (sLen + k) sCap * info.bytes > 2 ^ 48 := by
    have := Nat.mul_le_mul_right info.bytes hnc
    omega
  let q : Question := .appendCap (sLen + k) sCap elem
  let cap := q.cut (w.tape w.drawn q)
  have hcap : sLen + k ≤ cap := by simp only [cap, q, Question.cut]; omega
  let w1 : World := { w with drawn := w.drawn + 1 }
  have hh1 : w1.heap = w.heap := rfl
  have hch : (choose (.appendCap (sLen + k) sCap elem)).run P w = .ok cap w1 := by simp [cap, q, w1, Question.forced]
  refine ⟨cap, Builtin.zeroCells z.cells (cap - (sLen + k)), hcap, ?_, ?_⟩
  · simp [Builtin.zeroCells, hzs]
  have hbig : ¬ ((sLen + k : Nat) : Int) > IntKind.i64.max := by
    have : IntKind.i64.max = 9223372036854775807 := by decide
    omega
  unfold appArg at ha
  split at ha
  · rename_i kk k2 c
    split at ha
    · rename_i hc
      simp only [Option.some.injEq, Prod.mk.injEq] at ha
      obtain ⟨rfl, rfl⟩ := ha
      have hw : IntKind.i64.wrap c = c := wrap64 hc.1 (by omega)
      have hzr := zeros_run (P := P) (β := β) (w := w1) (k := c.toNat) hz hzs
      simp only [Sem.run_ite, Sem.run_bind, Sem.run_pure] at hzr
      simp only [Builtin.append_, h0, h1, Sem.run_bind, run_und hu, Result.andThen_ok, hsz, run_und hu1, Sem.run_pure, if_true, ren, asInt, asIntOf, hw, Sem.run_ite, if_neg (show ¬ c < 0 by omega), run_info hi,
        if_neg (show ¬ c * (info.bytes : Int) > 2 ^ 48 by omega), List.getElem?_toArray, List.getElem?_cons_zero, List.getElem?_cons_succ, if_neg hle, Bool.not_true, Bool.false_eq_true, if_false,
        hbig, false_and, hnb, hch, run_askRoom, hold w1 rfl, hzr]
      simp only [hz1', Result.andThen_ok, Go.newRow, run_newObj, Sem.run_bind, Sem.run_pure]
      simp [w1]
    · cases ha
  · cases ha
  · rename_i a k2 cap' hne
    simp only [Option.map_eq_some_iff, Prod.mk.injEq] at ha
    obtain ⟨cs, hcs, rfl, rfl⟩ := ha
    obtain ⟨ad, c, e⟩ : ∃ ad c, ren β (.slice a k2 cap') = .slice ad k2 c := by
      cases a with
      | none => exact ⟨_, _, rfl⟩
      | some a => obtain ⟨i, o, s⟩ := a; simp only [ren]; exact renSlice_form ..
    have hfc := (sliceCells_sound (P := P) (hm.heap hh1) hcs).1
    rw [e] at hfc ⊢
    simp only [Builtin.append_, h0, h1, Sem.run_bind, run_und hu, Result.andThen_ok, hsz, run_und hu1, Sem.run_pure, List.getElem?_toArray, List.getElem?_cons_zero, List.getElem?_cons_succ,
      Bool.false_eq_true, if_false, Builtin.lenOf, if_neg hle, Bool.not_false, if_true, run_info hi, hbig, false_and, hnb, hch, run_askRoom, hold w1 rfl, hfc, hz1', Go.newRow, run_newObj, Sem.run_ite]
    simp [w1]
  · cases ha

theorem appArg_blw (hm : RelM β n m w) {elem : TypeId} {z x : Value} {info : TypeInfo} {u1 : TypeDesc} {k : Nat} {xs : List Value} (hz : zeroOf P elem = some z) (hzs : z.cells.size = info.size) (ha : appArg m z info u1 x = some (k, xs)) :
    blwL n xs = true ∧ xs.length = k * info.size := by
  unfold appArg at ha
  split at ha
  · split at ha
    · simp only [Option.some.injEq, Prod.mk.injEq] at ha
      obtain ⟨rfl, rfl⟩ := ha
      have ⟨_, _, hz3⟩ := zero_ren (P := P) (β := β) (n := n) (w := w) hz
      refine ⟨?_, by simp [hzs]⟩
      rw [blwL_eq, List.all_eq_true]
      intro x hx
      simp only [List.mem_flatten, List.mem_replicate] at hx
      obtain ⟨l, ⟨_, rfl⟩, hx⟩ := hx
      exact blwL_mem (blw_cells hz3) hx
    · cases ha
  · cases ha
  · rename_i a k2 cap hne
    simp only [Option.map_eq_some_iff, Prod.mk.injEq] at ha
    obtain ⟨cs, hcs, rfl, rfl⟩ := ha
    have := sliceCells_sound (P := P) hm hcs
    exact ⟨this.2.1, this.2.2⟩
  · cases ha

theorem appendA_sound (hm : RelM β n m w) {argTypes : Array TypeId} {type t0 t1 : TypeId} {s x v : Value} {m' : Mem} {n' : Nat} (h0 : argTypes[0]? = some t0) (h1 : argTypes[1]? = some t1)
    (hs : blw n s = true) (h : appendA P m n.n t0 t1 s x = .val v m' n') :
    ∃ β' w', (Builtin.append_ argTypes type #[ren β s, ren β x]).run P w = .ok (ren β' v) w' ∧ Ex β n m w β' (n.up n') m' w' ∧ blw (n.up n') v = true := by
  unfold appendA at h
  split at h
  · rename_i elem hu
    split at h
    · rename_i info z u1 hi hz hu1
      simp only at h
      split at h
      · cases h
      · rename_i hzl
        have hzl : z.cells.toList.length = info.size := Decidable.not_not.1 hzl
        have hzs : z.cells.size = info.size := by simpa using hzl
        split at h
        · cases h
        · rename_i k xs ha
          obtain ⟨hbx, hlx⟩ := appArg_blw (P := P) hm hz hzs ha
          split at h
          · cases h
          · rename_i hok
            have hok : xs.all cellOk = true := Decidable.not_not.1 hok
            split at h
            · -- onto nil
              rename_i len cap
              split at h
              · cases h
              · rename_i hlc
                have hl0 : len = 0 := by omega
                have hc0 : cap = 0 := by omega
                subst hl0; subst hc0
                split at h
                · rename_i hk
                  subst hk
                  simp only [Eff.val.injEq] at h
                  obtain ⟨rfl, rfl, rfl⟩ := h
                  exact ⟨β, w, append_room h0 h1 hu hi hz hu1 hm ha hzs (by omega) (by simp) (fun _ => rfl), Ex.refl hm, rfl⟩
                · rename_i hk
                  split at h
                  · rename_i hc
                    simp only [Eff.val.injEq] at h
                    obtain ⟨rfl, rfl, rfl⟩ := h
                    obtain ⟨cap, rest, h2, h3, h4⟩ := append_grow (type := type) (base := none) (sLen := 0) (sCap := 0) (old := #[]) h0 h1 hu hi hz hu1 hm ha hzs (by omega) (by simpa using hc.1) (by omega) (fun w' _ => by simp [Builtin.firstCells])
                    refine ⟨_, _, ?_, growBlock hm hbx (m0 := m) (elem := elem) (sz := info.size) (d := w.drawn + 1) (rest := rest) (ex := cap - k) (fun j o _ hj => hj) (by rw [h3]; simp), by simp only [blw]; exact has_up hm.hol⟩
                    simp only [ren]
                    rw [h4]
                    simp only [renSlice, upd_self, Bool.false_eq_true, if_false, Nat.zero_add]
                    simp only [Nat.zero_add] at h2
                    rw [if_neg (by omega), show k + (cap - k) = cap from by omega]
                    simp
                  · cases h
            · rename_i i o sp len cap
              have hin : n.has i = true := by simpa [blw] using hs
              split at h
              · rename_i hle
                split at h
                · rename_i hk
                  subst hk
                  simp only [Eff.val.injEq] at h
                  obtain ⟨rfl, rfl, rfl⟩ := h
                  have hxs : xs = [] := List.eq_nil_of_length_eq_zero (by simpa using hlx)
                  subst hxs
                  refine ⟨β, w, ?_, Ex.refl hm, by simp only [blw]; exact hin⟩
                  obtain ⟨ad, c, e, hc⟩ : ∃ ad c, ren β (.slice (some ⟨i, o, sp⟩) len cap) = .slice ad len c ∧ cap ≤ c := by
                    simp only [ren, renSlice]
                    (repeat' split) <;> exact ⟨_, _, rfl, by omega⟩
                  rw [e]
                  exact append_room h0 h1 hu hi hz hu1 hm ha hzs (by omega) (fun a _ => by simp [renL, storeCells]) (fun _ => rfl)
                · rename_i hk
                  split at h
                  · rename_i m2 hst
                    simp only [Eff.val.injEq] at h
                    obtain ⟨rfl, rfl, rfl⟩ := h
                    obtain ⟨w', hw1, hw2, hw3⟩ := storeCs_sound (P := P) hm hbx hst
                    refine ⟨β, w', ?_, hw2, by simp only [blw]; exact hin⟩
                    cases sp with
                    | none =>
                      simp only [ren, renSlice, hw3, Bool.false_eq_true, if_false]
                      refine append_room h0 h1 hu hi hz hu1 hm ha hzs (by omega) (fun a e => ?_) (by simp)
                      simp only [Option.some.injEq] at e; subst e
                      rw [addr_add, show o + (β i).sh + len * info.size = o + len * info.size + (β i).sh from by omega]
                      exact hw1
                    | some t =>
                      simp only [ren, renSlice, hw3, Bool.false_eq_true, if_false, if_neg (show ¬ cap + (β i).ex = 0 by omega)]
                      refine append_room h0 h1 hu hi hz hu1 hm ha hzs (by omega) (fun a e => ?_) (by simp)
                      simp only [Option.some.injEq] at e; subst e
                      rw [addr_add, show t + (β i).sh + len * info.size = t + len * info.size + (β i).sh from by omega]
                      exact hw1
                  · cases h
              · rename_i hnle
                split at h
                · cases h
                · rename_i hlc
                  have hlc : len ≤ cap := Decidable.not_not.1 hlc
                  split at h
                  · rename_i hsmall
                    split at h
                    · rename_i old hold
                      obtain ⟨ho1, ho2, ho3⟩ := sliceCells_sound (P := P) hm hold
                      have hfc : ∀ w' : World, w'.heap = w.heap → (Builtin.firstCells info.size len (ren β (.slice (some ⟨i, o, sp⟩) len cap))).run P w' = .ok (renL β old).toArray w' :=
                        fun w' hw => (sliceCells_sound (P := P) (hm.heap hw) hold).1
                      have hbo : blwL n (old ++ xs) = true := by
                        rw [blwL_eq, List.all_append, ← blwL_eq, ← blwL_eq, ho2, hbx]; rfl
                      have eapp : renL β (old ++ xs) = renL β old ++ renL β xs := by simp [renL_eq]
                      split at h
                      · -- a slice whose capacity is known: new memory
                        simp only [Eff.val.injEq] at h
                        obtain ⟨rfl, rfl, rfl⟩ := h
                        obtain ⟨ad, e⟩ : ∃ ad, ren β (.slice (some ⟨i, o, none⟩) len cap) = .slice ad len cap := by
                          simp only [ren, renSlice]
                          split <;> exact ⟨_, rfl⟩
                        rw [e] at hfc ⊢
                        obtain ⟨cap', rest, h2, h3, h4⟩ := append_grow (type := type) h0 h1 hu hi hz hu1 hm ha hzs hnle hsmall.1 hsmall.2 hfc
                        refine ⟨_, _, ?_, growBlock hm hbo (m0 := m) (elem := elem) (sz := info.size) (d := w.drawn + 1) (rest := rest) (ex := cap' - (len + k)) (fun j o _ hj => hj) (by rw [h3]; exact Nat.le_refl _), by simp only [blw]; exact has_up hm.hol⟩
                        rw [h4, eapp]
                        simp only [ren, renSlice, upd_self, Bool.false_eq_true, if_false]
                        rw [if_neg (by omega), show len + k + (cap' - (len + k)) = cap' from by omega]
                        simp
                      · rename_i t
                        split at h
                        · rename_i e' sz' cs hg
                          split at h
                          · rename_i hcc
                            obtain ⟨hcc, rfl, rfl⟩ := hcc
                            simp only [Eff.val.injEq] at h
                            obtain ⟨rfl, rfl, rfl⟩ := h
                            obtain ⟨_, hn, hb0, c, hh, hc0, hsz0⟩ := hm.obj i _ hg
                            by_cases hroom : len + k ≤ cap + (β i).ex
                            · -- in the spare room
                              have hadr : ren β (.slice (some ⟨i, o, some t⟩) len cap) = .slice (some ⟨(β i).blk, t + (β i).sh, none⟩) len (cap + (β i).ex) := by
                                simp only [ren, renSlice, hn, Bool.false_eq_true, if_false, if_neg (show ¬ cap + (β i).ex = 0 by omega)]
                              have hmul : (len + k) * info.size + (cap + (β i).ex - (len + k)) * info.size = cap * info.size + (β i).ex * info.size := by
                                rw [← Nat.add_mul, ← Nat.add_mul]; congr 1; omega
                              have hmul2 : (len + k) * info.size = len * info.size + k * info.size := Nat.add_mul ..
                              have hall : ∀ v ∈ renL β xs, v.oneCell' = true := by
                                intro v hv
                                rw [renL_eq] at hv
                                obtain ⟨u, hu, rfl⟩ := List.mem_map.1 hv
                                exact ren_oneCell β (List.all_eq_true.1 hok u hu)
                              have hlr : (renL β xs).length = xs.length := by rw [renL_eq]; simp
                              have hrun := run_storeCells_at P (β i).blk (t + (β i).sh + len * info.size) e' (renL β xs) 0 c w hh (by rw [hlr, hlx]; omega) hall
                              rw [hadr]
                              have hR : (Builtin.append_ argTypes type #[.slice (some ⟨(β i).blk, t + (β i).sh, none⟩) len (cap + (β i).ex), ren β x]).run P w =
                                  .ok (.slice (some ⟨(β i).blk, t + (β i).sh, none⟩) (len + k) (cap + (β i).ex)) _ :=
                                append_room h0 h1 hu hi hz hu1 hm ha hzs hroom (fun a e => by
                                  simp only [Option.some.injEq] at e; subst e
                                  rw [addr_add]; exact hrun) (by simp)
                              have hren : ren (upd β n.n ⟨(β i).blk, (β i).sh + t, cap + (β i).ex - (len + k), false, none⟩) (.slice (some ⟨n.n, 0, some 0⟩) (len + k) (len + k)) =
                                  .slice (some ⟨(β i).blk, t + (β i).sh, none⟩) (len + k) (cap + (β i).ex) := by
                                simp only [ren, renSlice, upd_self, Bool.false_eq_true, if_false]
                                rw [show len + k + (cap + (β i).ex - (len + k)) = cap + (β i).ex from by omega]
                                simp [Nat.add_comm]
                              refine ⟨upd β n.n ⟨(β i).blk, (β i).sh + t, cap + (β i).ex - (len + k), false, none⟩, _, by rw [hren]; exact hR, ?_, by simp only [blw]; exact has_up hm.hol⟩
                              have hto : takeAt cs t (len * info.size) = some old := by
                                simp only [sliceCells, if_pos (Nat.le_refl _), cellsOf, hg] at hold
                                split at hold
                                · exact hold
                                · cases hold
                              obtain ⟨_, ht2, _⟩ := takeAt_spec hto
                              refine growInPlace hm hg hbo (setRow_heap w _ c _ e' _ hh) (fun b hb => setRow_other w _ b _ hb) (setRow_size w _ _) rfl rfl rfl ?_ ?_
                              · intro j v hj
                                simp only [List.getElem?_toArray, List.append_assoc]
                                have hl1 : (c.toList.take (t + (β i).sh + len * info.size + 0)).length = t + (β i).sh + len * info.size := by simp; omega
                                by_cases h1 : j < len * info.size
                                · rw [List.getElem?_append_left (by omega)] at hj
                                  rw [List.getElem?_append_left (by omega), List.getElem?_take, if_pos (by omega)]
                                  have := hc0 _ v (ht2 j v hj)
                                  rw [show t + j + (β i).sh = j + ((β i).sh + t) from by omega] at this
                                  simpa using this
                                · rw [List.getElem?_append_right (by omega), ho3] at hj
                                  have hjl : j - len * info.size < xs.length := (List.getElem?_eq_some_iff.1 hj).1
                                  rw [List.getElem?_append_right (by omega), hl1, List.getElem?_append_left (by omega)]
                                  rw [show j + ((β i).sh + t) - (t + (β i).sh + len * info.size) = j - len * info.size from by omega, renL_eq, List.getElem?_map, hj]
                                  rfl
                              · simp [ho3, hlx, hlr]; omega
                            · have hfc' := hfc
                              obtain ⟨ad, e⟩ : ∃ ad, ren β (.slice (some ⟨i, o, some t⟩) len cap) = .slice ad len (cap + (β i).ex) := by
                                simp only [ren, renSlice, hn, Bool.false_eq_true, if_false]
                                exact ⟨_, rfl⟩
                              rw [e] at hfc ⊢
                              obtain ⟨cap', rest, h2, h3, h4⟩ := append_grow (type := type) h0 h1 hu hi hz hu1 hm ha hzs hroom hsmall.1 hsmall.2 hfc
                              refine ⟨_, _, ?_, growBlock hm hbo (m0 := m.del i) (elem := e') (sz := info.size) (d := w.drawn + 1) (rest := rest) (ex := cap' - (len + k))
                                (fun j o _ hj => by rw [Tr.get_del] at hj; split at hj <;> simp_all) (by rw [h3]; exact Nat.le_refl _), by simp only [blw]; exact has_up hm.hol⟩
                              rw [h4, eapp]
                              simp only [ren, renSlice, upd_self, Bool.false_eq_true, if_false]
                              rw [if_neg (by omega), show len + k + (cap' - (len + k)) = cap' from by omega]
                              simp
                          · cases h
                        · cases h
                    · cases h
                  · cases h
            · cases h
    · cases h
  · cases h
end
end Go.Ab
