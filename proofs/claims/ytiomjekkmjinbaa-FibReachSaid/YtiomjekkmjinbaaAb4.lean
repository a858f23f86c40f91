/- Plain laws: the finite map, renaming, 'below', slots. -/
import Derived.Test.YtiomjekkmjinbaaAb3
import Derived.Laws.Sem
namespace Go.Ab
open Go

namespace Tr
variable {α : Type}
theorem get_sing (f n : Nat) (x : α) (h : n < f) (j : Nat) : (sing f n x).get j = if n = j then some x else none := by
  induction f generalizing n j with
  | zero => omega
  | succ f ih =>
    cases n with
    | zero => cases j with
      | zero => simp [sing, get]
      | succ j => simp [sing, get]
    | succ k =>
      simp only [sing]
      split <;> rename_i hk
      · cases j with
        | zero => simp [get]
        | succ j =>
          simp only [get]
          split <;> rename_i hj
          · rw [ih _ (by omega)]
            by_cases e : k = j
            · simp [e]
            · rw [if_neg (by omega), if_neg (by omega)]
          · rw [if_neg (by omega)]
      · cases j with
        | zero => simp [get]
        | succ j =>
          simp only [get]
          split <;> rename_i hj
          · rw [if_neg (by omega)]
          · rw [ih _ (by omega)]
            by_cases e : k = j
            · simp [e]
            · rw [if_neg (by omega), if_neg (by omega)]
theorem get_leaf (j : Nat) : (leaf : Tr α).get j = none := rfl
theorem get_set (t : Tr α) (n : Nat) (x : α) (j : Nat) : (t.set n x).get j = if n = j then some x else t.get j := by
  induction t generalizing n j with
  | leaf => simp only [set]; rw [get_sing _ _ _ (by omega)]; simp [get]
  | node l v r ihl ihr =>
    cases n with
    | zero => cases j <;> simp [set, get]
    | succ k =>
      simp only [set]
      split <;> rename_i hk
      · cases j with
        | zero => simp [get]
        | succ j =>
          simp only [get]
          split <;> rename_i hj
          · rw [ihl]
            by_cases e : k = j
            · simp [e]
            · rw [if_neg (by omega), if_neg (by omega)]
          · rw [if_neg (by omega)]
      · cases j with
        | zero => simp [get]
        | succ j =>
          simp only [get]
          split <;> rename_i hj
          · rw [if_neg (by omega)]
          · rw [ihr]
            by_cases e : k = j
            · simp [e]
            · rw [if_neg (by omega), if_neg (by omega)]
theorem get_del (t : Tr α) (n : Nat) (j : Nat) : (t.del n).get j = if n = j then none else t.get j := by
  induction t generalizing n j with
  | leaf => simp [del, get]
  | node l v r ihl ihr =>
    cases n with
    | zero => cases j <;> simp [del, get]
    | succ k =>
      simp only [del]
      split <;> rename_i hk
      · cases j with
        | zero => simp [get]
        | succ j =>
          simp only [get]
          split <;> rename_i hj
          · rw [ihl]
            by_cases e : k = j
            · simp [e]
            · rw [if_neg (by omega), if_neg (by omega)]
          · rw [if_neg (by omega)]
      · cases j with
        | zero => simp [get]
        | succ j =>
          simp only [get]
          split <;> rename_i hj
          · rw [if_neg (by omega)]
          · rw [ihr]
            by_cases e : k = j
            · simp [e]
            · rw [if_neg (by omega), if_neg (by omega)]
end Tr

theorem renL_eq (β : Beta) (l : List Value) : renL β l = l.map (ren β) := by
  induction l with
  | nil => rfl
  | cons v l ih => simp [renL, ih]
theorem blwL_eq (n : Dm) (l : List Value) : blwL n l = l.all (blw n) := by
  induction l with
  | nil => rfl
  | cons v l ih => simp [blwL, ih]

/-- The one set of blocks lies in the other. -/
def Dm.le (n k : Dm) : Prop := ∀ i, n.has i = true → k.has i = true
theorem Dm.le_refl (n : Dm) : n.le n := fun _ h => h
theorem Dm.le_trans {a b c : Dm} (h : a.le b) (k : b.le c) : a.le c := fun i hi => k i (h i hi)
theorem Dm.none_le (n : Dm) : Dm.none.le n := fun i h => by simp [Dm.has, Dm.none] at h
theorem Dm.has_iff {d : Dm} {i : Nat} : d.has i = true ↔ i < d.n ∧ d.H i = false := by simp [Dm.has]
theorem Dm.le_up {d : Dm} {k : Nat} (h : d.n ≤ k) : d.le (d.up k) := fun i hi => by
  rw [Dm.has_iff] at hi ⊢; exact ⟨Nat.lt_of_lt_of_le hi.1 h, hi.2⟩
theorem Dm.up_n (d : Dm) (k : Nat) : (d.up k).n = k := rfl
theorem Dm.up_self (d : Dm) : d.up d.n = d := rfl
theorem Dm.up_up (d : Dm) (a b : Nat) : (d.up a).up b = d.up b := rfl

mutual
theorem ren_agree {β γ : Beta} {n : Dm} (h : ∀ i, n.has i = true → γ i = β i) : ∀ v, blw n v = true → ren γ v = ren β v
  | .bool _, _ | .int .., _ | .float .., _ | .complex .., _ | .string _, _ | .nilFunc, _ | .nilIface, _ | .pointer none, _
  | .slice none _ _, _ | .map none, _ | .chan _, _ => by simp [ren, renPtr]
  | .pointer (some ⟨i, o, s⟩), hb => by
    simp only [blw, Bool.and_eq_true] at hb
    simp [ren, renPtr, h i hb.1]
  | .slice (some ⟨i, o, s⟩) _ _, hb => by
    simp only [blw] at hb
    simp [ren, h i hb]
  | .map (some i), hb => by
    simp only [blw] at hb
    simp [ren, h i hb]
  | .func fn ⟨f⟩ ⟨c⟩, hb => by
    simp only [blw, Bool.and_eq_true] at hb
    have e : renFn γ fn = renFn β fn := by
      cases fn <;> simp [renFn]
      rename_i l
      have := hb.1
      simp only [blwFn] at this
      rw [h l this]
    simp [ren, e, renL_agree h f hb.2.1, renL_agree h c hb.2.2]
  | .iface _ v, hb => by simp only [blw] at hb; simp [ren, ren_agree h v hb]
  | .agg ⟨cs⟩, hb => by simp only [blw] at hb; simp [ren, renL_agree h cs hb]
  | .tuple ⟨cs⟩, hb => by simp only [blw] at hb; simp [ren, renL_agree h cs hb]
theorem renL_agree {β γ : Beta} {n : Dm} (h : ∀ i, n.has i = true → γ i = β i) : ∀ l, blwL n l = true → renL γ l = renL β l
  | [], _ => rfl
  | v :: l, hb => by
    simp only [blwL, Bool.and_eq_true] at hb
    simp [renL, ren_agree h v hb.1, renL_agree h l hb.2]
end

theorem blwFn_mono {n k : Dm} (h : n.le k) {f : Fn} (hf : blwFn n f = true) : blwFn k f = true := by
  cases f <;> simp_all [blwFn]
  exact h _ hf

mutual
theorem blw_mono {n k : Dm} (h : n.le k) : ∀ v, blw n v = true → blw k v = true
  | .bool _, _ | .int .., _ | .float .., _ | .complex .., _ | .string _, _ | .nilFunc, _ | .nilIface, _ | .pointer none, _
  | .slice none _ _, _ | .map none, _ | .chan none, _ => by simp [blw]
  | .chan (some _), hb => by simp [blw] at hb
  | .pointer (some ⟨i, o, s⟩), hb => by
    simp only [blw, Bool.and_eq_true] at hb ⊢
    exact ⟨h i hb.1, hb.2⟩
  | .slice (some ⟨i, o, s⟩) _ _, hb => by
    simp only [blw] at hb ⊢
    exact h i hb
  | .map (some i), hb => by
    simp only [blw] at hb ⊢
    exact h i hb
  | .func fn ⟨f⟩ ⟨c⟩, hb => by
    simp only [blw, Bool.and_eq_true] at hb ⊢
    exact ⟨blwFn_mono h hb.1, blwL_mono h f hb.2.1, blwL_mono h c hb.2.2⟩
  | .iface _ v, hb => by simp only [blw] at hb ⊢; exact blw_mono h v hb
  | .agg ⟨cs⟩, hb => by simp only [blw] at hb ⊢; exact blwL_mono h cs hb
  | .tuple ⟨cs⟩, hb => by simp only [blw] at hb ⊢; exact blwL_mono h cs hb
theorem blwL_mono {n k : Dm} (h : n.le k) : ∀ l, blwL n l = true → blwL k l = true
  | [], _ => rfl
  | v :: l, hb => by
    simp only [blwL, Bool.and_eq_true] at hb ⊢
    exact ⟨blw_mono h v hb.1, blwL_mono h l hb.2⟩
end

theorem none_has (i : Nat) : Dm.none.has i = false := by simp [Dm.has, Dm.none]
theorem renFn_const (β : Beta) {fn : Fn} (h : blwFn Dm.none fn = true) : renFn β fn = fn := by
  cases fn <;> simp [renFn]
  simp [blwFn, none_has] at h

mutual
theorem ren_const (β : Beta) : ∀ v, blw Dm.none v = true → ren β v = v
  | .bool _, _ | .int .., _ | .float .., _ | .complex .., _ | .string _, _ | .nilFunc, _ | .nilIface, _ | .pointer none, _
  | .slice none _ _, _ | .map none, _ | .chan _, _ => by simp [ren, renPtr]
  | .pointer (some ⟨i, o, s⟩), hb => by simp [blw, none_has] at hb
  | .slice (some ⟨i, o, s⟩) _ _, hb => by simp [blw, none_has] at hb
  | .map (some i), hb => by simp [blw, none_has] at hb
  | .func fn ⟨f⟩ ⟨c⟩, hb => by
    simp only [blw, Bool.and_eq_true] at hb
    simp [ren, renFn_const β hb.1, renL_const β f hb.2.1, renL_const β c hb.2.2]
  | .iface _ v, hb => by simp only [blw] at hb; simp [ren, ren_const β v hb]
  | .agg ⟨cs⟩, hb => by simp only [blw] at hb; simp [ren, renL_const β cs hb]
  | .tuple ⟨cs⟩, hb => by simp only [blw] at hb; simp [ren, renL_const β cs hb]
theorem renL_const (β : Beta) : ∀ l, blwL Dm.none l = true → renL β l = l
  | [], _ => rfl
  | v :: l, hb => by
    simp only [blwL, Bool.and_eq_true] at hb
    simp [renL, ren_const β v hb.1, renL_const β l hb.2]
end

/-- The cells of a renamed value are the renamed cells. -/
theorem ren_cells (β : Beta) (v : Value) : (ren β v).cells = (v.cells.toList.map (ren β)).toArray := by
  cases v with
  | agg cs => cases cs; simp [ren, Value.cells, renL_eq]
  | slice a l c => cases a <;> simp [ren, Value.cells, renSlice] <;> (repeat' split) <;> simp_all
  | pointer a => cases a <;> simp [ren, Value.cells]
  | map a => cases a <;> simp [ren, Value.cells]
  | func fn f c => cases f; cases c; simp [ren, Value.cells]
  | tuple cs => cases cs; simp [ren, Value.cells]
  | _ => simp [ren, Value.cells]
theorem ren_cells_size (β : Beta) (v : Value) : (ren β v).cells.size = v.cells.toList.length := by rw [ren_cells]; simp
theorem ren_cells_toList (β : Beta) (v : Value) : (ren β v).cells.toList = v.cells.toList.map (ren β) := by rw [ren_cells]
theorem blw_cells {n : Dm} {v : Value} (h : blw n v = true) : blwL n v.cells.toList = true := by
  cases v with
  | agg cs => cases cs; simpa [Value.cells, blw] using h
  | _ => simp [Value.cells, blwL, h]
theorem renSlice_notAgg (l : Loc) (o : Nat) (s : Option Nat) (a b : Nat) : ∀ cs, renSlice l o s a b ≠ .agg cs ∧ renSlice l o s a b ≠ .tuple cs := by
  intro cs; unfold renSlice; (repeat' split) <;> simp
theorem ren_oneCell (β : Beta) {v : Value} (h : cellOk v = true) : (ren β v).oneCell' = true := by
  cases v with
  | agg cs => simp [cellOk] at h
  | tuple cs => simp [cellOk] at h
  | slice a l c =>
    cases a with
    | none => simp [ren, Value.oneCell']
    | some a =>
      obtain ⟨i, o, s⟩ := a
      simp only [ren]; unfold renSlice; (repeat' split) <;> simp [Value.oneCell']
  | pointer a => simp [ren, Value.oneCell']
  | map a => cases a <;> simp [ren, Value.oneCell']
  | func fn f c => cases f; cases c; simp [ren, Value.oneCell']
  | _ => simp [ren, Value.oneCell']

theorem lk_put (sl : Slots) (t : Nat) (x : Value) (s : Nat) : lk (put sl t x) s = if t = s then some x else lk sl s := rfl
theorem lk_pick {sl : Slots} {t : Tmp} {v : Value} {l : List Tmp} (h : lk (l.filterMap fun t => (lk sl t).map fun v => (t, v)) t = some v) : t ∈ l ∧ lk sl t = some v := by
  induction l with
  | nil => simp [lk] at h
  | cons a l ih =>
    rw [List.filterMap_cons] at h
    cases ha : lk sl a with
    | none =>
      rw [ha] at h
      have := ih h
      exact ⟨List.mem_cons_of_mem _ this.1, this.2⟩
    | some u =>
      rw [ha] at h
      simp only [Option.map_some, lk] at h
      split at h
      · rename_i e; subst e
        exact ⟨List.mem_cons_self .., by rw [ha]; exact h⟩
      · have := ih h
        exact ⟨List.mem_cons_of_mem _ this.1, this.2⟩
theorem lk_prune (keep : Option (List Nat)) (sl : Slots) (s : Nat) (v : Value) (h : lk (prune keep sl) s = some v) : lk sl s = some v := by
  cases keep with
  | none => exact h
  | some ks => exact (lk_pick (l := ks) h).2
end Go.Ab
