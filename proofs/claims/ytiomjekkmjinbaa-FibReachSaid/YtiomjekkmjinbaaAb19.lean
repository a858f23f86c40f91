/- Regions that draw their order: plain laws. -/
import Derived.Test.YtiomjekkmjinbaaAb18
namespace Go.Ab
open Go

/-- One operation's row of bits. -/
def bitsOf (acc : Array Nat) (o : Oper) : Nat := o.after.foldl (fun s e => if Region.binds .any e then s ||| 2 ^ e.on ||| acc.getD e.on 0 else s) 0

theorem before_eq (ops : Array Oper) : Region.before ops = ops.toList.foldl (fun acc o => acc.push (bitsOf acc o)) #[] := by
  unfold Region.before bitsOf
  rw [← Array.foldl_toList]

theorem before_fold : ∀ (l : List Oper) (acc : Array Nat), (∀ k, k < acc.size → (l.foldl (fun acc o => acc.push (bitsOf acc o)) acc).getD k 0 = acc.getD k 0) ∧
    (l.foldl (fun acc o => acc.push (bitsOf acc o)) acc).size = acc.size + l.length ∧
    ∀ i o, l[i]? = some o → ∃ acc' : Array Nat, acc'.size = acc.size + i ∧ (l.foldl (fun acc o => acc.push (bitsOf acc o)) acc).getD (acc.size + i) 0 = bitsOf acc' o ∧
      ∀ k, k < acc'.size → acc'.getD k 0 = (l.foldl (fun acc o => acc.push (bitsOf acc o)) acc).getD k 0
  | [], acc => ⟨fun _ _ => rfl, rfl, fun i o h => by simp at h⟩
  | o :: l, acc => by
    obtain ⟨h1, h2, h3⟩ := before_fold l (acc.push (bitsOf acc o))
    have hp : ∀ k, k < acc.size → (acc.push (bitsOf acc o)).getD k 0 = acc.getD k 0 := fun k hk => by
      simp [Array.getD_eq_getD_getElem?, Array.getElem?_push, Nat.ne_of_lt hk]
    have hl : (acc.push (bitsOf acc o)).getD acc.size 0 = bitsOf acc o := by simp [Array.getD_eq_getD_getElem?]
    simp only [List.foldl_cons]
    refine ⟨fun k hk => (h1 k (by simp; omega)).trans (hp k hk), by rw [h2]; simp; omega, fun i o' hi => ?_⟩
    cases i with
    | zero =>
      simp only [List.getElem?_cons_zero, Option.some.injEq] at hi; subst hi
      exact ⟨acc, rfl, (h1 acc.size (by simp)).trans hl, fun k hk => ((h1 k (by simp; omega)).trans (hp k hk)).symm⟩
    | succ i =>
      obtain ⟨acc', e1, e2, e3⟩ := h3 i o' (by simpa using hi)
      simp only [Array.size_push] at e1 e2
      exact ⟨acc', by omega, by rw [show acc.size + (i + 1) = acc.size + 1 + i by omega]; exact e2, e3⟩

theorem bitsOf_bit {acc : Array Nat} {o : Oper} {j : Nat} (h : (bitsOf acc o).testBit j = true) :
    ∃ e ∈ o.after, Region.binds .any e = true ∧ (j = e.on ∨ (acc.getD e.on 0).testBit j = true) := by
  unfold bitsOf at h
  rw [← Array.foldl_toList] at h
  have key : ∀ (l : List Edge) (s : Nat), (l.foldl (fun s e => if Region.binds .any e = true then s ||| 2 ^ e.on ||| acc.getD e.on 0 else s) s).testBit j = true →
      s.testBit j = true ∨ ∃ e ∈ l, Region.binds .any e = true ∧ (j = e.on ∨ (acc.getD e.on 0).testBit j = true) := by
    intro l
    induction l with
    | nil => intro s h; exact .inl h
    | cons e l ih =>
      intro s h
      simp only [List.foldl_cons] at h
      rcases ih _ h with h | ⟨e', he, h⟩
      · by_cases hb : Region.binds .any e = true
        · simp only [hb, if_true, Nat.testBit_or, Bool.or_eq_true] at h
          rcases h with (h | h) | h
          · exact .inl h
          · refine .inr ⟨e, List.mem_cons_self .., hb, .inl ?_⟩
            rw [Nat.testBit_two_pow] at h
            exact (of_decide_eq_true h).symm
          · exact .inr ⟨e, List.mem_cons_self .., hb, .inr h⟩
        · rw [if_neg hb] at h; exact .inl h
      · exact .inr ⟨e', List.mem_cons_of_mem _ he, h⟩
  rcases key _ _ h with h | ⟨e, he, h⟩
  · simp at h
  · exact ⟨e, by simpa using he, h⟩

theorem before_bit {ops : Array Oper} {i j : Nat} (h : ((Region.before ops).getD i 0).testBit j = true) :
    ∃ o, ops[i]? = some o ∧ ∃ e ∈ o.after, Region.binds .any e = true ∧ (j = e.on ∨ (e.on < i ∧ ((Region.before ops).getD e.on 0).testBit j = true)) := by
  rw [before_eq] at h ⊢
  obtain ⟨h1, h2, h3⟩ := before_fold ops.toList #[]
  have hi : i < ops.size := by
    rcases Nat.lt_or_ge i ops.size with hi | hi
    · exact hi
    · rw [Array.getD_eq_getD_getElem?, Array.getElem?_eq_none (by rw [h2]; simpa using hi)] at h
      simp at h
  refine ⟨ops[i], by simp [hi], ?_⟩
  obtain ⟨acc', e1, e2, e3⟩ := h3 i ops[i] (by simp [hi])
  simp only [List.size_toArray, List.length_nil, Nat.zero_add] at e1 e2
  rw [e2] at h
  obtain ⟨e, he, hb, h⟩ := bitsOf_bit h
  refine ⟨e, he, hb, ?_⟩
  rcases h with h | h
  · exact .inl h
  · right
    have hlt : e.on < acc'.size := by
      rcases Nat.lt_or_ge e.on acc'.size with hlt | hge
      · exact hlt
      · rw [Array.getD_eq_getD_getElem?, Array.getElem?_eq_none hge] at h
        simp at h
    rw [e3 _ hlt] at h
    exact ⟨by omega, h⟩

/-- Whoever is behind a set that is closed under the edges is behind it in the bits. -/
theorem bits_closed {ops : Array Oper} {S : Nat → Bool} (cl : ∀ i o, ops[i]? = some o → S i = true → ∀ e ∈ o.after, Region.binds .any e = true → S e.on = true) :
    ∀ i j o, ops[i]? = some o → (∀ e ∈ o.after, Region.binds .any e = true → S e.on = true) → ((Region.before ops).getD i 0).testBit j = true → S j = true := by
  intro i
  induction i using Nat.strongRecOn with
  | ind i ih =>
    intro j o ho hr hb
    obtain ⟨o', ho', e, he, hbd, h⟩ := before_bit hb
    rw [ho] at ho'; cases ho'
    have hs := hr e he hbd
    rcases h with rfl | ⟨hlt, h⟩
    · exact hs
    · obtain ⟨o2, ho2, _⟩ := before_bit h
      exact ih e.on hlt j o2 ho2 (fun e' he' hb' => cl e.on o2 ho2 hs e' he' hb') h

structure OrdR (ops : Array Oper) (nt : Nat) : Prop where
  dst : ∀ (i : Nat) (o : Oper), ops[i]? = some o → dstOk nt o.dst = true
  lt : ∀ (i : Nat) (o : Oper), ops[i]? = some o → ∀ e ∈ o.after, Region.binds .any e = true → e.on < i
  ord : ∀ (i : Nat) (o : Oper) (j : Nat) (d : Oper) (t : Tmp), ops[i]? = some o → ops[j]? = some d → i ≠ j → d.dst = some t → t ∈ named ops o → ((Region.before ops).getD (max i j) 0).testBit (min i j) = true

theorem mem_zip {ops : Array Oper} {i : Nat} {o : Oper} (h : ops[i]? = some o) : (o, i) ∈ ops.toList.zipIdx := by
  rw [List.mem_iff_getElem?]
  exact ⟨i, by rw [List.getElem?_zipIdx]; simp [h]⟩

theorem ord_of {ops : Array Oper} {nt : Nat} (h : orderOk ops (Region.before ops) nt = true) : OrdR ops nt := by
  unfold orderOk at h
  simp only [List.all_eq_true] at h
  refine ⟨fun i o ho => ?_, fun i o ho e he hb => ?_, fun i o j d t ho hd hij ht hm => ?_⟩
  · have := h _ (mem_zip ho)
    simp only [Bool.and_eq_true] at this
    exact this.1.1
  · have := h _ (mem_zip ho)
    simp only [Bool.and_eq_true, Array.all_eq_true_iff_forall_mem] at this
    have := this.1.2 e he
    simpa [hb] using this
  · have := h _ (mem_zip ho)
    simp only [Bool.and_eq_true, List.all_eq_true] at this
    have := this.2 _ (mem_zip hd)
    simpa [hij, ht, hm] using this

theorem OrdR.bit_lt {ops : Array Oper} {nt : Nat} (h : OrdR ops nt) : ∀ i j, ((Region.before ops).getD i 0).testBit j = true → j < i := by
  intro i
  induction i using Nat.strongRecOn with
  | ind i ih =>
    intro j hb
    obtain ⟨o, ho, e, he, hbd, h'⟩ := before_bit hb
    have := h.lt i o ho e he hbd
    rcases h' with rfl | ⟨_, h'⟩
    · exact this
    · exact Nat.lt_trans (ih e.on this j h') this

/-- Counting those of a list that lie in its first part. -/
theorem filter_le {α : Type} {l : List α} {p : α → Bool} {j : Nat} (h : ∀ q a, l[q]? = some a → p a = true → q < j) : (l.filter p).length ≤ j := by
  induction l generalizing j with
  | nil => simp
  | cons a l ih =>
    cases j with
    | zero =>
      have : ∀ b ∈ (a :: l), ¬ p b = true := fun b hb hp => by
        obtain ⟨q, hq⟩ := List.mem_iff_getElem?.1 hb
        exact Nat.not_lt_zero _ (h q b hq hp)
      rw [List.filter_eq_nil_iff.2 this]; exact Nat.le_refl _
    | succ j =>
      have := ih (j := j) fun q b hb hp => Nat.lt_of_succ_lt_succ (h (q + 1) b (by simpa using hb) hp)
      rw [List.filter_cons]
      split
      · simp; omega
      · omega
theorem le_filter {α : Type} {l : List α} {p : α → Bool} {j : Nat} (hj : j ≤ l.length) (h : ∀ q a, l[q]? = some a → q < j → p a = true) : j ≤ (l.filter p).length := by
  induction l generalizing j with
  | nil => simpa using hj
  | cons a l ih =>
    cases j with
    | zero => exact Nat.zero_le _
    | succ j =>
      have h0 := h 0 a rfl (Nat.succ_pos _)
      have := ih (j := j) (by simpa using hj) fun q b hb hq => h (q + 1) b (by simpa using hb) (Nat.succ_lt_succ hq)
      rw [List.filter_cons, if_pos h0]
      simp; omega

theorem get_addAll_none {n0 k : Nat} : ∀ (l : List (Nat × AObj)) (m : Mem), (∀ x ∈ l, n0 + x.1 ≠ k) → (addAll n0 l m).get k = m.get k
  | [], m, _ => rfl
  | (i, o) :: l, m, h => by
    simp only [addAll]
    rw [get_addAll_none l _ fun x hx => h x (List.mem_cons_of_mem _ hx), Tr.get_set, if_neg (h (i, o) (List.mem_cons_self ..))]
theorem get_addAll_some {n0 : Nat} {x : Nat × AObj} : ∀ (l : List (Nat × AObj)) (m : Mem), (l.map (·.1)).Nodup → x ∈ l → (addAll n0 l m).get (n0 + x.1) = some x.2
  | [], m, _, h => by cases h
  | (i, o) :: l, m, hn, h => by
    simp only [List.map_cons, List.nodup_cons] at hn
    simp only [addAll]
    rcases List.mem_cons.1 h with rfl | h
    · rw [get_addAll_none l _ fun y hy e => hn.1 (List.mem_map.2 ⟨y, hy, by simp at e ⊢; omega⟩), Tr.get_set, if_pos rfl]
    · exact get_addAll_some l _ hn.2 h
/-- All that is in it. -/
theorem get_addAll {n0 k : Nat} {o : AObj} {l : List (Nat × AObj)} {m : Mem} (hn : (l.map (·.1)).Nodup) (h : (addAll n0 l m).get k = some o) :
    (∃ x ∈ l, k = n0 + x.1 ∧ o = x.2) ∨ (m.get k = some o ∧ ∀ x ∈ l, n0 + x.1 ≠ k) := by
  by_cases he : ∃ x ∈ l, n0 + x.1 = k
  · obtain ⟨x, hx, rfl⟩ := he
    rw [get_addAll_some l m hn hx] at h
    exact .inl ⟨x, hx, rfl, (Option.some.inj h).symm⟩
  · have hne : ∀ x ∈ l, n0 + x.1 ≠ k := fun x hx e => he ⟨x, hx, e⟩
    rw [get_addAll_none l m hne] at h
    exact .inr ⟨h, hne⟩

theorem nodup_filter_map {l : List (Nat × AObj)} {p : Nat × AObj → Bool} (h : (l.map (·.1)).Nodup) : ((l.filter p).map (·.1)).Nodup := by
  exact h.sublist (List.Sublist.map _ List.filter_sublist)

theorem lk_restr {o : Oper} {sl : Slots} {t : Tmp} {v : Value} (h : lk (restr o sl) t = some v) : t ∈ opTmps o ∧ lk sl t = some v := lk_pick h

theorem wantedA_congr {ops : Array Oper} {sl sl' : Slots} {o : Oper} (h : ∀ t ∈ named ops o, lk sl t = lk sl' t) : wantedA ops sl o = wantedA ops sl' o := by
  unfold wantedA
  cases hg : o.guard with
  | none => rfl
  | some g =>
    obtain ⟨j, want⟩ := g
    simp only
    cases hj : (ops[j]?).bind (·.dst) with
    | none => rfl
    | some t =>
      simp only
      rw [h t (by simp [named, hg, hj])]
end Go.Ab
