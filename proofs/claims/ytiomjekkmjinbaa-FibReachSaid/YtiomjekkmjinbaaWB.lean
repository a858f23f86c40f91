/- WB: what parts of the program compute; helper of the claim. -/
import Derived.Test.YtiomjekkmjinbaaAb43
import Derived.Test.YtiomjekkmjinbaaE14b
import Derived.Test.YtiomjekkmjinbaaAb42
set_option maxRecDepth 100000
/- The plain law of wheels: members, buckets. -/
namespace Go.Proofs.Sp

def ld (B : List Int) (m : Int) : Int := (B.count m : Nat)
theorem ld_nonneg (B : List Int) (m : Int) : 0 ≤ ld B m := Int.natCast_nonneg _
theorem ld_le (B : List Int) (m : Int) : ld B m ≤ B.length := by unfold ld; have := List.count_le_length (a := m) (l := B); omega

/-- The first least, the last greatest. -/
def minF (B : List Int) : Int → List Int → Int
  | o, [] => o
  | o, x :: l => minF B (if ld B x < ld B o then x else o) l
def least (M B : List Int) : Int := match M with
  | [] => 0
  | x :: l => minF B x l
def maxG (B : List Int) : Int → List Int → Int
  | o, [] => o
  | o, x :: l => maxG B (if ld B x ≥ ld B o then x else o) l
def most (M B : List Int) : Int := match M with
  | [] => 0
  | x :: l => maxG B x l
def maxF (B : List Int) : Int → List Int → Int
  | o, [] => o
  | o, x :: l => maxF B (if ld B x > ld B o then x else o) l

theorem maxF_cons (B : List Int) : ∀ (t : List Int) (x h : Int), maxF B x (h :: t) = if ld B (maxF B h t) > ld B x then maxF B h t else x
  | [], x, h => by simp [maxF]
  | k :: t, x, h => by
    rw [maxF, maxF_cons B t, maxF_cons B t]
    by_cases h1 : ld B h > ld B x <;> by_cases h2 : ld B (maxF B k t) > ld B h <;> by_cases h3 : ld B (maxF B k t) > ld B x <;> simp [h1, h2, h3] <;> omega
theorem maxG_snoc (B : List Int) (y : Int) : ∀ (l : List Int) (o : Int), maxG B o (l ++ [y]) = if ld B y ≥ ld B (maxG B o l) then y else maxG B o l
  | [], o => rfl
  | x :: l, o => by simp only [List.cons_append, maxG]; exact maxG_snoc B y l _
/-- The last greatest of a list is the first greatest of the list turned round. -/
theorem maxF_rev (B : List Int) : ∀ (r : List Int) (x : Int), (∀ h t, (r ++ [x]).reverse = h :: t → maxG B h t = maxF B (match r ++ [x] with | [] => 0 | a :: _ => a) (match r ++ [x] with | [] => [] | _ :: l => l))
  | [], x, h, t, e => by simp at e; obtain ⟨rfl, rfl⟩ := e; rfl
  | a :: r, x, h, t, e => by
    simp only [List.cons_append, List.reverse_cons] at e
    -- the first is last
    cases hr : (r ++ [x]).reverse with
    | nil => simp at hr
    | cons h' t' =>
      rw [hr] at e
      simp only [List.cons_append, List.cons.injEq] at e
      obtain ⟨rfl, rfl⟩ := e
      rw [maxG_snoc]
      have ih := maxF_rev B r x h' t' hr
      rw [ih]
      cases hq : r ++ [x] with
      | nil => simp at hq
      | cons b l =>
        simp only [List.cons_append, hq, maxF_cons]
        by_cases h1 : ld B (maxF B b l) > ld B a
        · rw [if_pos h1, if_neg (by omega)]
        · rw [if_neg h1, if_pos (by omega)]
theorem most_rev (B : List Int) {M : List Int} (h : M ≠ []) : most M B = match M.reverse with | [] => 0 | a :: l => maxF B a l := by
  have hne : M.reverse ≠ [] := by simpa using h
  obtain ⟨r, x, hr⟩ : ∃ r x, M.reverse = r ++ [x] := ⟨_, _, (List.dropLast_concat_getLast hne).symm⟩
  have hM : M = (r ++ [x]).reverse := by rw [← hr, List.reverse_reverse]
  cases hm : M with
  | nil => exact (h hm).elim
  | cons a l =>
    have := maxF_rev B r x a l (by rw [← hM, hm])
    have h2 : (a :: l).reverse = r ++ [x] := by rw [← hm, hr]
    rw [h2]
    show maxG B a l = _
    rw [this]
    cases r ++ [x] <;> rfl

theorem minF_mem (B : List Int) : ∀ (l : List Int) (o : Int), minF B o l = o ∨ minF B o l ∈ l
  | [], o => .inl rfl
  | x :: l, o => by
    simp only [minF]
    rcases minF_mem B l (if ld B x < ld B o then x else o) with h | h
    · by_cases hx : ld B x < ld B o
      · rw [if_pos hx] at h ⊢; exact .inr (by rw [h]; exact List.mem_cons_self ..)
      · rw [if_neg hx] at h ⊢; exact .inl h
    · exact .inr (List.mem_cons_of_mem _ h)
theorem minF_le (B : List Int) : ∀ (l : List Int) (o : Int), ld B (minF B o l) ≤ ld B o ∧ ∀ x ∈ l, ld B (minF B o l) ≤ ld B x
  | [], o => ⟨Int.le_refl _, fun x h => by cases h⟩
  | y :: l, o => by
    simp only [minF]
    have ⟨h1, h2⟩ := minF_le B l (if ld B y < ld B o then y else o)
    by_cases hx : ld B y < ld B o
    · rw [if_pos hx] at h1 h2 ⊢
      exact ⟨by omega, fun x h => by rcases List.mem_cons.1 h with rfl | h; exact h1; exact h2 x h⟩
    · rw [if_neg hx] at h1 h2 ⊢
      exact ⟨h1, fun x h => by rcases List.mem_cons.1 h with rfl | h; omega; exact h2 x h⟩
theorem least_mem {M : List Int} (B : List Int) (h : M ≠ []) : least M B ∈ M := by
  cases M with
  | nil => exact (h rfl).elim
  | cons x l =>
    rcases minF_mem B l x with h | h
    · rw [least, h]; exact List.mem_cons_self ..
    · exact List.mem_cons_of_mem _ h
theorem least_le {M : List Int} (B : List Int) {m : Int} (h : m ∈ M) : ld B (least M B) ≤ ld B m := by
  cases M with
  | nil => cases h
  | cons x l =>
    have ⟨h1, h2⟩ := minF_le B l x
    rcases List.mem_cons.1 h with rfl | h
    · exact h1
    · exact h2 m h
theorem maxG_mem (B : List Int) : ∀ (l : List Int) (o : Int), maxG B o l = o ∨ maxG B o l ∈ l
  | [], o => .inl rfl
  | x :: l, o => by
    simp only [maxG]
    rcases maxG_mem B l (if ld B x ≥ ld B o then x else o) with h | h
    · by_cases hx : ld B x ≥ ld B o
      · rw [if_pos hx] at h ⊢; exact .inr (by rw [h]; exact List.mem_cons_self ..)
      · rw [if_neg hx] at h ⊢; exact .inl h
    · exact .inr (List.mem_cons_of_mem _ h)
theorem maxG_ge (B : List Int) : ∀ (l : List Int) (o : Int), ld B (maxG B o l) ≥ ld B o ∧ ∀ x ∈ l, ld B (maxG B o l) ≥ ld B x
  | [], o => ⟨Int.le_refl _, fun x h => by cases h⟩
  | y :: l, o => by
    simp only [maxG]
    have ⟨h1, h2⟩ := maxG_ge B l (if ld B y ≥ ld B o then y else o)
    by_cases hx : ld B y ≥ ld B o
    · rw [if_pos hx] at h1 h2 ⊢
      exact ⟨by omega, fun x h => by rcases List.mem_cons.1 h with rfl | h; exact h1; exact h2 x h⟩
    · rw [if_neg hx] at h1 h2 ⊢
      exact ⟨h1, fun x h => by rcases List.mem_cons.1 h with rfl | h; omega; exact h2 x h⟩
theorem most_mem {M : List Int} (B : List Int) (h : M ≠ []) : most M B ∈ M := by
  cases M with
  | nil => exact (h rfl).elim
  | cons x l =>
    rcases maxG_mem B l x with h | h
    · rw [most, h]; exact List.mem_cons_self ..
    · exact List.mem_cons_of_mem _ h
theorem most_ge {M : List Int} (B : List Int) {m : Int} (h : m ∈ M) : ld B m ≤ ld B (most M B) := by
  cases M with
  | nil => cases h
  | cons x l =>
    have ⟨h1, h2⟩ := maxG_ge B l x
    rcases List.mem_cons.1 h with rfl | h
    · exact h1
    · exact h2 m h

/- the three steps of Set -/
def clean (next B : List Int) : List Int := B.map fun b => if b ∈ next then b else -1
def fillG (M : List Int) : List Int → List Int → List Int
  | pre, [] => pre
  | pre, x :: post => fillG M (pre ++ [if x = -1 then least M (pre ++ x :: post) else x]) post
def replLast (a b : Int) : List Int → List Int
  | [] => []
  | x :: l => if a ∈ l then x :: replLast a b l else if x = a then b :: l else x :: l
def gap (M B : List Int) : Int := ld B (most M B) - ld B (least M B)
def stepB (M B : List Int) : List Int := replLast (most M B) (least M B) B
def rebal (M : List Int) : Nat → List Int → List Int
  | 0, B => B
  | f + 1, B => if gap M B > 1 then rebal M f (stepB M B) else B
def setErr (next : List Int) (prev : Option Int) : Int := match next with
  | [] => 0
  | x :: l => if x < 0 then 2 else if x ≥ 128 then 2 else match prev with
    | some p => if x ≤ p then 10 else setErr l (some x)
    | none => setErr l (some x)
def fuelB : Nat := 70000
def setB (next B : List Int) : List Int := if next = [] then clean next B else rebal next fuelB (fillG next [] (clean next B))
def setF (next : List Int) (M B : List Int) : Int × (List Int × List Int) :=
  if setErr next none ≠ 0 then (setErr next none, (M, B)) else if (next.length : Int) > B.length then (7, (M, B)) else (0, (next, setB next B))

theorem replLast_length (a b : Int) : ∀ l : List Int, (replLast a b l).length = l.length
  | [] => rfl
  | x :: l => by
    simp only [replLast]
    split
    · simp [replLast_length a b l]
    · split <;> simp
theorem fillG_length (M : List Int) : ∀ (post pre : List Int), (fillG M pre post).length = pre.length + post.length
  | [], pre => by simp [fillG]
  | x :: post, pre => by simp [fillG, fillG_length M post]; omega
theorem clean_length (next B : List Int) : (clean next B).length = B.length := by simp [clean]
theorem rebal_length (M : List Int) : ∀ (f : Nat) (B : List Int), (rebal M f B).length = B.length
  | 0, _ => rfl
  | f + 1, B => by
    simp only [rebal]
    split
    · rw [rebal_length M f, stepB, replLast_length]
    · rfl
theorem setB_length (next B : List Int) : (setB next B).length = B.length := by
  unfold setB
  split
  · exact clean_length ..
  · rw [rebal_length, fillG_length, clean_length]; simp
end Go.Proofs.Sp

set_option maxRecDepth 100000
/- The plain law of wheels: the loop ends; what it keeps. -/
namespace Go.Proofs.Sp

theorem replLast_count {a b : Int} (hab : a ≠ b) (x : Int) : ∀ {l : List Int}, a ∈ l → (replLast a b l).count x + (if x = a then 1 else 0) = l.count x + (if x = b then 1 else 0)
  | [], h => by cases h
  | y :: l, h => by
    simp only [replLast]
    split
    · rename_i hl
      have := replLast_count hab x hl
      simp only [List.count_cons]
      omega
    · rename_i hl
      have hy : y = a := by
        rcases List.mem_cons.1 h with h | h
        · exact h.symm
        · exact (hl h).elim
      subst hy
      simp only [if_true, List.count_cons]
      by_cases h1 : x = y
      · subst h1
        have : ¬ x = b := hab
        have h2 : (b == x) = false := by simp; exact fun e => hab e.symm
        simp [this, h2]
      · have h2 : (y == x) = false := by simp; exact fun e => h1 e.symm
        by_cases h3 : x = b
        · subst h3; simp [h2, h1]
        · have h4 : (b == x) = false := by simp; exact fun e => h3 e.symm
          simp [h1, h2, h3, h4]
def sq (B : List Int) : List Int → Nat
  | [] => 0
  | x :: M => B.count x * B.count x + sq B M
theorem sq_same {B C : List Int} : ∀ {M : List Int}, (∀ x ∈ M, C.count x = B.count x) → sq C M = sq B M
  | [], _ => rfl
  | x :: M, h => by simp only [sq]; rw [h x (List.mem_cons_self ..), sq_same fun y hy => h y (List.mem_cons_of_mem _ hy)]
/-- One count goes up, the others stay. -/
theorem sq_up {B C : List Int} {b : Int} : ∀ {M : List Int}, M.Nodup → b ∈ M → (∀ x ∈ M, x ≠ b → C.count x = B.count x) → C.count b = B.count b + 1 → sq C M = sq B M + 2 * B.count b + 1
  | [], _, h, _, _ => by cases h
  | x :: M, hn, hm, h, hb => by
    obtain ⟨hx, hn⟩ := List.nodup_cons.1 hn
    simp only [sq]
    by_cases e : x = b
    · subst e
      rw [hb, sq_same (B := B) (C := C) fun y hy => h y (List.mem_cons_of_mem _ hy) fun e => hx (e ▸ hy)]
      simp only [Nat.add_mul, Nat.mul_add]; omega
    · have hm' : b ∈ M := by
        rcases List.mem_cons.1 hm with h | h
        · exact (e h.symm).elim
        · exact h
      rw [h x (List.mem_cons_self ..) e, sq_up hn hm' (fun y hy => h y (List.mem_cons_of_mem _ hy)) hb]
      omega
theorem sq_step {B C : List Int} {a b : Int} : ∀ {M : List Int}, M.Nodup → a ∈ M → b ∈ M → a ≠ b → (∀ x ∈ M, x ≠ a → x ≠ b → C.count x = B.count x) → C.count a + 1 = B.count a → C.count b = B.count b + 1 → B.count b + 2 ≤ B.count a → sq C M < sq B M
  | [], _, h, _, _, _, _, _, _ => by cases h
  | x :: M, hn, ha, hb, hab, h, h1, h2, h3 => by
    obtain ⟨hx, hn⟩ := List.nodup_cons.1 hn
    have tl : ∀ {y}, y ∈ x :: M → x ≠ y → y ∈ M := fun {y} hy hne => by
      rcases List.mem_cons.1 hy with h | h
      · exact (hne h.symm).elim
      · exact h
    simp only [sq]
    by_cases ea : x = a
    · subst ea
      have hb' := tl hb hab
      have := sq_up (B := B) (C := C) hn hb' (fun y hy hyb => h y (List.mem_cons_of_mem _ hy) (fun e => hx (e ▸ hy)) hyb) h2
      rw [this]
      have e : B.count x * B.count x = C.count x * C.count x + 2 * C.count x + 1 := by rw [← h1]; simp only [Nat.add_mul, Nat.mul_add]; omega
      omega
    · by_cases eb : x = b
      · subst eb
        have ha' := tl ha ea
        -- turned round
        have := sq_up (B := C) (C := B) hn ha' (fun y hy hya => (h y (List.mem_cons_of_mem _ hy) hya (fun e => hx (e ▸ hy))).symm) h1.symm
        rw [this]
        have e : C.count x * C.count x = B.count x * B.count x + 2 * B.count x + 1 := by rw [h2]; simp only [Nat.add_mul, Nat.mul_add]; omega
        omega
      · rw [h x (List.mem_cons_self ..) ea eb]
        have := sq_step (B := B) (C := C) hn (tl ha ea) (tl hb eb) hab (fun y hy => h y (List.mem_cons_of_mem _ hy)) h1 h2 h3
        omega
theorem sq_le {B : List Int} {k : Nat} (hk : B.length ≤ k) : ∀ M : List Int, M.Nodup → sq B M ≤ k * B.length := by
  intro M hM
  -- the counts of different members come to at most the length
  have key : ∀ (M : List Int), M.Nodup → ∀ B : List Int, (M.map B.count).sum ≤ B.length := by
    intro M
    induction M with
    | nil => intro _ B; simp
    | cons x M ih =>
      intro hn B
      obtain ⟨hx, hn⟩ := List.nodup_cons.1 hn
      have h1 := ih hn (B.filter (· != x))
      have h2 : (M.map (B.filter (· != x)).count) = M.map B.count := List.map_congr_left fun y hy => by
        rw [List.count_filter]
        simp; exact fun e => hx (e ▸ hy)
      rw [h2] at h1
      have h3 : B.count x + (B.filter (· != x)).length = B.length := by
        have := List.length_eq_countP_add_countP (p := (· == x)) (l := B)
        rw [List.count, this, List.countP_eq_length_filter (p := fun a => decide ¬(a == x) = true)]
        congr 2
        exact List.filter_congr fun y _ => by simp; rfl
      simp only [List.map_cons, List.sum_cons]
      omega
  have h1 := key M hM B
  have h2 : ∀ M : List Int, sq B M ≤ k * (M.map B.count).sum := by
    intro M
    induction M with
    | nil => simp [sq]
    | cons x M ih =>
      simp only [sq, List.map_cons, List.sum_cons, Nat.mul_add]
      have : B.count x ≤ k := Nat.le_trans (List.count_le_length) hk
      have := Nat.mul_le_mul_right (B.count x) this
      omega
  exact Nat.le_trans (h2 M) (Nat.mul_le_mul_left k h1)

theorem gap_two {M B : List Int} (h : gap M B > 1) : B.count (least M B) + 2 ≤ B.count (most M B) := by
  unfold gap ld at h; omega
theorem gap_mem {M B : List Int} (h : gap M B > 1) : most M B ∈ B := by
  have := gap_two h
  exact List.count_pos_iff.1 (by omega)
theorem gap_ne {M B : List Int} (h : gap M B > 1) : most M B ≠ least M B := by
  intro e
  have := gap_two h
  rw [e] at this; omega
theorem step_count {M B : List Int} (h : gap M B > 1) (x : Int) : (stepB M B).count x + (if x = most M B then 1 else 0) = B.count x + (if x = least M B then 1 else 0) :=
  replLast_count (gap_ne h) x (gap_mem h)
theorem step_lt {M B : List Int} (hM : M.Nodup) (hne : M ≠ []) (h : gap M B > 1) : sq (stepB M B) M < sq B M := by
  have hne' := gap_ne h
  have h0 : ¬ least M B = most M B := fun e => hne' e.symm
  refine sq_step hM (most_mem B hne) (least_mem B hne) hne' (fun x _ ha hb => ?_) ?_ ?_ (gap_two h)
  · have := step_count h x
    rw [if_neg ha, if_neg hb] at this; omega
  · have := step_count h (most M B)
    rw [if_pos rfl, if_neg hne'] at this; omega
  · have := step_count h (least M B)
    rw [if_neg h0, if_pos rfl] at this; omega
theorem rebal_stop {M B : List Int} (h : ¬ gap M B > 1) : ∀ f, rebal M f B = B
  | 0 => rfl
  | f + 1 => by rw [rebal, if_neg h]
theorem rebal_go {M B : List Int} {f : Nat} (h : gap M B > 1) : rebal M (f + 1) B = rebal M f (stepB M B) := by rw [rebal, if_pos h]
/-- Fuel enough. -/
theorem fuel_ok {M B : List Int} (hM : M.Nodup) (hl : B.length ≤ 256) : sq B M < fuelB := by
  have h1 := sq_le hl M hM
  have h2 : 256 * B.length ≤ 256 * 256 := Nat.mul_le_mul_left _ hl
  unfold fuelB; omega
theorem rebal_gap {M : List Int} (hM : M.Nodup) (hne : M ≠ []) : ∀ (f : Nat) (B : List Int), sq B M < f → ¬ gap M (rebal M f B) > 1
  | 0, B, h => by omega
  | f + 1, B, h => by
    by_cases hg : gap M B > 1
    · rw [rebal_go hg]
      exact rebal_gap hM hne f _ (by have := step_lt hM hne hg; omega)
    · rw [rebal_stop hg]; exact hg
theorem setErr_nodup : ∀ (X : List Int) (p : Option Int), setErr X p = 0 → X.Nodup ∧ (∀ q, p = some q → ∀ x ∈ X, q < x) ∧ ∀ x ∈ X, 0 ≤ x ∧ x < 128
  | [], p, _ => ⟨List.nodup_nil, (fun _ _ _ h => nomatch h), (fun _ h => nomatch h)⟩
  | x :: X, p, h => by
    simp only [setErr] at h
    by_cases h1 : x < 0
    · rw [if_pos h1] at h; cases h
    by_cases h2 : x ≥ 128
    · rw [if_neg h1, if_pos h2] at h; cases h
    rw [if_neg h1, if_neg h2] at h
    have key : setErr X (some x) = 0 ∧ ∀ q, p = some q → q < x := by
      cases p with
      | none => exact ⟨h, fun q e => by cases e⟩
      | some p =>
        simp only at h
        by_cases h3 : x ≤ p
        · rw [if_pos h3] at h; cases h
        · rw [if_neg h3] at h; exact ⟨h, fun q e => by cases e; omega⟩
    obtain ⟨i1, i2, i3⟩ := setErr_nodup X (some x) key.1
    refine ⟨List.nodup_cons.2 ⟨fun hx => by have := i2 x rfl x hx; omega, i1⟩, fun q e y hy => ?_, fun y hy => ?_⟩
    · have := key.2 q e
      rcases List.mem_cons.1 hy with rfl | hy
      · exact this
      · have := i2 x rfl y hy; omega
    · rcases List.mem_cons.1 hy with rfl | hy
      · omega
      · exact i3 y hy
end Go.Proofs.Sp

set_option maxRecDepth 100000
/- The plain law of wheels: what Set leads to. -/
namespace Go.Proofs.Sp

/-- Members: ascending, in range. -/
def Asc (M : List Int) : Prop := M.Pairwise (· < ·) ∧ ∀ x ∈ M, 0 ≤ x ∧ x < 128
theorem Asc.nodup {M : List Int} (h : Asc M) : M.Nodup := h.1.imp fun h => Int.ne_of_lt h
/-- Loads differ by at most one. -/
def Even (M B : List Int) : Prop := ∀ x ∈ M, ∀ y ∈ M, B.count x ≤ B.count y + 1
theorem even_gap {M B : List Int} (hne : M ≠ []) : Even M B ↔ ¬ gap M B > 1 := by
  unfold gap ld
  constructor
  · intro h hg
    have := h _ (most_mem B hne) _ (least_mem B hne)
    omega
  · intro h x hx y hy
    have h1 := most_ge B hx
    have h2 := least_le B hy
    unfold ld at h1 h2
    omega

theorem fillG_mem {M : List Int} (hne : M ≠ []) : ∀ (post pre : List Int), (∀ x ∈ pre, x ∈ M) → (∀ x ∈ post, x = -1 ∨ x ∈ M) → ∀ x ∈ fillG M pre post, x ∈ M
  | [], pre, h, _ => h
  | y :: post, pre, h, hp => by
    simp only [fillG]
    refine fillG_mem hne post _ (fun x hx => ?_) fun x hx => hp x (List.mem_cons_of_mem _ hx)
    rcases List.mem_append.1 hx with hx | hx
    · exact h x hx
    · simp only [List.mem_singleton] at hx
      subst hx
      split
      · exact least_mem _ hne
      · rename_i hn
        rcases hp y (List.mem_cons_self ..) with h | h
        · exact (hn h).elim
        · exact h
theorem replLast_mem {a b x : Int} : ∀ {l : List Int}, x ∈ replLast a b l → x ∈ l ∨ x = b
  | [], h => nomatch h
  | y :: l, h => by
    simp only [replLast] at h
    split at h
    · rcases List.mem_cons.1 h with rfl | h
      · exact .inl (List.mem_cons_self ..)
      · rcases replLast_mem h with h | h
        · exact .inl (List.mem_cons_of_mem _ h)
        · exact .inr h
    · split at h
      · rcases List.mem_cons.1 h with rfl | h
        · exact .inr rfl
        · exact .inl (List.mem_cons_of_mem _ h)
      · exact .inl h
theorem rebal_mem {M : List Int} (hne : M ≠ []) : ∀ (f : Nat) (B : List Int), (∀ x ∈ B, x ∈ M) → ∀ x ∈ rebal M f B, x ∈ M
  | 0, B, h => h
  | f + 1, B, h => by
    simp only [rebal]
    split
    · refine rebal_mem hne f _ fun x hx => ?_
      rcases replLast_mem hx with h1 | h1
      · exact h x h1
      · rw [h1]; exact least_mem B hne
    · exact h

/-- How a wheel stands between the calls. -/
structure Inv (M B : List Int) : Prop where
  asc : Asc M
  none : M = [] → ∀ b ∈ B, b = -1
  all : M ≠ [] → (∀ b ∈ B, b ∈ M) ∧ Even M B
theorem clean_cases {X B : List Int} : ∀ b ∈ clean X B, b = -1 ∨ b ∈ X := fun b hb => by
  obtain ⟨y, _, rfl⟩ := List.mem_map.1 hb
  split
  · rename_i h; exact .inr h
  · exact .inl rfl
theorem Inv.set {X B : List Int} (hX : Asc X) (hl : B.length ≤ 256) : Inv X (setB X B) := by
  refine ⟨hX, fun he b hb => ?_, fun hne => ?_⟩
  · subst he
    simp only [setB, if_true] at hb
    rcases clean_cases b hb with h | h
    · exact h
    · cases h
  · rw [setB, if_neg hne]
    have h1 := fillG_mem hne (clean X B) [] (fun _ h => nomatch h) clean_cases
    refine ⟨rebal_mem hne _ _ h1, (even_gap hne).2 (rebal_gap hX.nodup hne _ _ (fuel_ok hX.nodup ?_))⟩
    rw [fillG_length, clean_length]; simpa using hl
theorem clean_id {X B : List Int} (h : ∀ b ∈ B, b ∈ X) : clean X B = B := by
  unfold clean
  conv => rhs; rw [← List.map_id B]
  exact List.map_congr_left fun b hb => by simp [h b hb]
theorem fillG_id {X : List Int} : ∀ (post pre : List Int), (∀ b ∈ post, b ≠ -1) → fillG X pre post = pre ++ post
  | [], pre, _ => by simp [fillG]
  | y :: post, pre, h => by
    rw [fillG, if_neg (h y (List.mem_cons_self ..)), fillG_id post _ fun b hb => h b (List.mem_cons_of_mem _ hb)]
    simp
/-- The same members again change nothing. -/
theorem Inv.again {M B : List Int} (h : Inv M B) (hne : M ≠ []) : setB M B = B := by
  obtain ⟨h1, h2⟩ := h.all hne
  rw [setB, if_neg hne, clean_id h1, fillG_id _ _ fun b hb => by have := (h.asc.2 b (h1 b hb)).1; omega, List.nil_append, rebal_stop ((even_gap hne).1 h2)]

/-- Additions. -/
structure Add (M : List Int) (A B C : List Int) : Prop where
  old : ∀ x ∈ M, ∀ y ∈ M, C.count x ≤ C.count y + 1
  new : ∀ x ∈ A, x ∉ M → ∀ y ∈ A, y ∉ M → C.count x ≤ C.count y + 1
  le : ∀ x ∈ A, x ∉ M → ∀ y ∈ M, C.count x ≤ C.count y
  chg : ∀ (i : Nat) v, C[i]? = some v → B[i]? = some v ∨ v ∉ M
end Go.Proofs.Sp

set_option maxRecDepth 100000
namespace Go.Proofs.Ytiomjekkmjinbaa.Sp11
open Go Go.Ab Sp
theorem mixed : Try.prog.follows .mixedOrders = true := by kernel_rfl
abbrev vi (x : Int) : Value := .int .i64 x
abbrev pp (i : Nat) : Value := .pointer (some ⟨i, 0, none⟩)

/-- The two lists of a wheel's state. -/
structure StV (m : Mem) (n s : Nat) (M B : List Int) (ma : Option Addr) (mc : Nat) (ba : Option Addr) (bc : Nat) : Prop where
  get : m.get s = some (.cells none tSpreadstate 2 [.slice ma M.length mc, .slice ba B.length bc])
  mem : Sl m n ma mc (M.map vi)
  bkt : Sl m n ba bc (B.map vi)
  lm : M.length ≤ 1000
  lb : B.length ≤ 1000
theorem StV.le {m m' : Mem} {n n' s : Nat} {M B : List Int} {ma ba : Option Addr} {mc bc : Nat} (h : StV m n s M B ma mc ba bc) (k : Le m n m' n') (hs : s < n) : StV m' n' s M B ma mc ba bc :=
  ⟨k.get hs h.get, h.mem.le k, h.bkt.le k, h.lm, h.lb⟩
theorem StV.up {m : Mem} {n n' s : Nat} {M B : List Int} {ma ba : Option Addr} {mc bc : Nat} (h : StV m n s M B ma mc ba bc) (k : n ≤ n') : StV m n' s M B ma mc ba bc :=
  ⟨h.get, h.mem.same k fun _ _ _ _ => rfl, h.bkt.same k fun _ _ _ _ => rfl, h.lm, h.lb⟩

theorem load_loop {m : Mem} {n0 : Nat} {B : List Int} {ba : Option Addr} {bc : Nat} {x : Int} {Q : Value → Mem → Nat → Prop} (hb : Sl m n0 ba bc (B.map vi)) (hl : B.length ≤ 1000) :
    ∀ l pre k n, B = pre ++ l → (k : Nat) = pre.count x → Q (vi (ld B x)) m n → W Try.prog { fn := fSpreadstateload, nt := 24, slots := [(1, vi x), (5, .int .i64 (k : Nat)), (11, .slice ba B.length bc), (12, .int .i64 B.length), (13, .int .i64 pre.length)], todo := pt Try.prog fSpreadstateload [1, 1, 0, 1, 0, 0] } m n Q := by
  intro l
  induction l with
  | nil =>
    intro pre k n h hk hq
    refine W_of mixed (cfg := xcfg) (fuel := 400) ?_
    rw [xSpreadstateloadk0]
    refine condDF (by simp [h]) ?_
    simp only [List.append_nil] at h
    subst h; subst hk
    exact hq
  | cons y l ih =>
    intro pre k n h hk hq
    refine W_of mixed (cfg := xcfg) (fuel := 400) ?_
    rw [xSpreadstateloadk0]
    have hlt : pre.length < B.length := by simp [h]
    have hy : B[pre.length] = y := by simp [h]
    have hw := wrapN (k := pre.length) (by omega)
    have hkl : k ≤ B.length := by rw [hk, h, List.length_append]; have := List.count_le_length (a := x) (l := pre); omega
    have hw2 := wrapN (k := k) (by omega)
    refine condDT (by omega) (hb.ldi hlt ?_)
    rw [hy, hw, hw2]
    have nxt := fun k' hk' => ih (pre ++ [y]) k' n (by simp [h]) hk' hq
    have hlen : (((pre ++ [y]).length : Nat) : Int) = ((pre.length + 1 : Nat) : Int) := by simp
    rw [hlen] at nxt
    refine condE (fun e => ?_) (fun e => ?_)
    · exact nxt (k + 1) (by simp [hk, e])
    · exact nxt k (by simp [hk, e])
theorem load_c {m : Mem} {n s : Nat} {M B : List Int} {ma ba : Option Addr} {mc bc : Nat} {x : Int} {Q : Value → Mem → Nat → Prop} (h : StV m n s M B ma mc ba bc) (hq : Q (vi (ld B x)) m n) : Wc Try.prog fSpreadstateload [pp s, vi x] m n Q := by
  refine Wc_of mixed (cfg := xcfg) (fuel := 400) ?_
  rw [xSpreadstateload]
  exact ⟨isC_of h.get, _, _, _, rd_of h.get rfl, load_loop h.bkt h.lb B [] 0 n rfl rfl hq⟩

theorem diff_wrap {B : List Int} (hl : B.length ≤ 1000) (a b : Int) : IntKind.i64.wrap (ld B a - ld B b) = ld B a - ld B b := by
  have := ld_nonneg B a; have := ld_nonneg B b; have := ld_le B a; have := ld_le B b
  exact wrap_id (by omega) (by omega)
/-- The comparing function of 'least' and of 'most'. -/
theorem least1_c {m : Mem} {n s t : Nat} {M B : List Int} {ma ba : Option Addr} {mc bc : Nat} {a b : Int} {Q : Value → Mem → Nat → Prop} (h : StV m n s M B ma mc ba bc) {T : Nat} (ht : m.get t = some (.cells none T 1 [pp s])) (hq : Q (vi (ld B a - ld B b)) m n) :
    Wc Try.prog fSpreadstateleast1 [vi a, vi b, pp t] m n Q := by
  refine Wc.scalar ?_ rfl hq
  refine Wc_of mixed (cfg := xcfg) (fuel := 400) ?_
  rw [xSpreadstateleast1]
  refine ⟨_, rd_of ht rfl, _, _, _, load_c (h.up (by omega)) ⟨rfl, rfl, rfl⟩, Later.mk ⟨_, rd_of ht rfl, _, _, _, load_c (h.up (by omega)) ⟨rfl, rfl, rfl⟩, Later.mk ?_⟩⟩
  exact ⟨⟨_, rd_of ht rfl, rfl⟩, Nat.le_refl _, Nat.le_refl _, by rw [diff_wrap h.lb], Le.refl.up (by omega)⟩
theorem most1_c {m : Mem} {n s t : Nat} {M B : List Int} {ma ba : Option Addr} {mc bc : Nat} {a b : Int} {Q : Value → Mem → Nat → Prop} (h : StV m n s M B ma mc ba bc) {T : Nat} (ht : m.get t = some (.cells none T 1 [pp s])) (hq : Q (vi (ld B a - ld B b)) m n) :
    Wc Try.prog fSpreadstatemost1 [vi a, vi b, pp t] m n Q := by
  refine Wc.scalar ?_ rfl hq
  refine Wc_of mixed (cfg := xcfg) (fuel := 400) ?_
  rw [xSpreadstatemost1]
  refine ⟨_, rd_of ht rfl, _, _, _, load_c (h.up (by omega)) ⟨rfl, rfl, rfl⟩, Later.mk ⟨_, rd_of ht rfl, _, _, _, load_c (h.up (by omega)) ⟨rfl, rfl, rfl⟩, Later.mk ?_⟩⟩
  exact ⟨⟨_, rd_of ht rfl, rfl⟩, Nat.le_refl _, Nat.le_refl _, by rw [diff_wrap h.lb], Le.refl.up (by omega)⟩

theorem minFunc_loop {m : Mem} {n : Nat} {B X : List Int} {xa : Option Addr} {xc g : Nat} {fst cap : List Value} {Q : Value → Mem → Nat → Prop} (hx : Sl m n xa xc (X.map vi)) (hl : X.length ≤ 1000)
    (hc : ∀ a b (Q : Value → Mem → Nat → Prop), Q (vi (ld B a - ld B b)) m n → Wc Try.prog g (fst ++ [vi a, vi b] ++ cap) m n Q) :
    ∀ l pre o, X = pre ++ l → Q (vi (minF B o l)) m n → W Try.prog { fn := fSlicesMinFuncLintint, nt := 33, slots := [(0, .slice xa X.length xc), (1, .func (.func g) ⟨fst⟩ ⟨cap⟩), (5, vi o), (6, .int .i64 pre.length)], todo := pt Try.prog fSlicesMinFuncLintint [1, 1, 1, 0, 1, 0, 0] } m n Q := by
  intro l
  induction l with
  | nil =>
    intro pre o h hq
    refine W_of mixed (cfg := xcfg) (fuel := 400) ?_
    rw [xSlicesMinFuncLintintk0]
    exact condDF (by simp [h]) hq
  | cons y l ih =>
    intro pre o h hq
    refine W_of mixed (cfg := xcfg) (fuel := 400) ?_
    rw [xSlicesMinFuncLintintk0]
    have hlt : pre.length < X.length := by simp [h]
    have hy : X[pre.length] = y := by simp [h]
    have hw := wrapN (k := pre.length) (by omega)
    refine condDT (by omega) (hx.ldi hlt ?_)
    rw [hy]
    refine hc _ _ _ ⟨_, rfl, Later.mk ?_⟩
    have nxt := fun o' hq' => ih (pre ++ [y]) o' (by simp [h]) hq'
    have hlen : (((pre ++ [y]).length : Nat) : Int) = ((pre.length + 1 : Nat) : Int) := by simp
    rw [hlen, ← hw] at nxt
    refine condD (fun e => ?_) (fun e => ?_)
    · refine hx.ldi hlt ?_
      rw [hy]
      exact nxt y (by rw [minF, if_pos (by omega)] at hq; exact hq)
    · exact nxt o (by rw [minF, if_neg (by omega)] at hq; exact hq)
theorem minFunc_c {m : Mem} {n : Nat} {B X : List Int} {xa : Option Addr} {xc g : Nat} {fst cap : List Value} {Q : Value → Mem → Nat → Prop} (hx : Sl m n xa xc (X.map vi)) (hl : X.length ≤ 1000) (hne : X ≠ [])
    (hc : ∀ a b (Q : Value → Mem → Nat → Prop), Q (vi (ld B a - ld B b)) m n → Wc Try.prog g (fst ++ [vi a, vi b] ++ cap) m n Q) (hq : Q (vi (least X B)) m n) :
    Wc Try.prog fSlicesMinFuncLintint [.slice xa X.length xc, .func (.func g) ⟨fst⟩ ⟨cap⟩] m n Q := by
  refine Wc_of mixed (cfg := xcfg) (fuel := 400) ?_
  rw [xSlicesMinFuncLintint]
  cases X with
  | nil => exact (hne rfl).elim
  | cons x X =>
    refine condDF (by simp; omega) ?_
    have := hx.ldi (i := 0) (by simp) (K := fun x3 => W Try.prog { fn := fSlicesMinFuncLintint, nt := 33, slots := [(0, .slice xa (x :: X).length xc), (1, .func (.func g) ⟨fst⟩ ⟨cap⟩), (5, vi x3), (6, .int .i64 1)], todo := pt Try.prog fSlicesMinFuncLintint [1, 1, 1, 0, 1, 0, 0] } m n Q)
      (minFunc_loop hx hl hc X [x] x rfl hq)
    simpa using this
theorem least_c {m : Mem} {n s : Nat} {M B : List Int} {ma ba : Option Addr} {mc bc : Nat} {Q : Value → Mem → Nat → Prop} (h : StV m n s M B ma mc ba bc) (hs : s < n) (hne : M ≠ []) (hq : Q (vi (least M B)) m n) : Wc Try.prog fSpreadstateleast [pp s] m n Q := by
  refine Wc.scalar ?_ rfl hq
  refine Wc_of mixed (cfg := xcfg) (fuel := 400) ?_
  rw [xSpreadstateleast]
  refine memLet.mk fun m0 hm => ?_
  have hle : Le m n m0 (n + 1) := by rw [hm]; exact Le.new
  have g0 : m0.get n = some (.cells none tPspreadstate 1 [pp s]) := by simp [hm, Tr.get_set]
  have h0 := h.le hle hs
  refine ⟨_, rd_of g0 rfl, isC_of h0.get, _, _, _, rd_of h0.get rfl, ?_⟩
  exact minFunc_c (B := B) h0.mem h0.lm hne (fun a b Q hq => least1_c h0 g0 hq) ⟨_, rfl, Later.mk ⟨rfl, hle⟩⟩

theorem maxFunc_loop {m : Mem} {n : Nat} {B X : List Int} {xa : Option Addr} {xc g : Nat} {fst cap : List Value} {Q : Value → Mem → Nat → Prop} (hx : Sl m n xa xc (X.map vi)) (hl : X.length ≤ 1000)
    (hc : ∀ a b (Q : Value → Mem → Nat → Prop), Q (vi (ld B a - ld B b)) m n → Wc Try.prog g (fst ++ [vi a, vi b] ++ cap) m n Q) :
    ∀ l pre o, X = pre ++ l → Q (vi (maxF B o l)) m n → W Try.prog { fn := fSlicesMaxFuncLintint, nt := 33, slots := [(0, .slice xa X.length xc), (1, .func (.func g) ⟨fst⟩ ⟨cap⟩), (5, vi o), (6, .int .i64 pre.length)], todo := pt Try.prog fSlicesMaxFuncLintint [1, 1, 1, 0, 1, 0, 0] } m n Q := by
  intro l
  induction l with
  | nil =>
    intro pre o h hq
    refine W_of mixed (cfg := xcfg) (fuel := 400) ?_
    rw [xSlicesMaxFuncLintintk0]
    exact condDF (by simp [h]) hq
  | cons y l ih =>
    intro pre o h hq
    refine W_of mixed (cfg := xcfg) (fuel := 400) ?_
    rw [xSlicesMaxFuncLintintk0]
    have hlt : pre.length < X.length := by simp [h]
    have hy : X[pre.length] = y := by simp [h]
    have hw := wrapN (k := pre.length) (by omega)
    refine condDT (by omega) (hx.ldi hlt ?_)
    rw [hy]
    refine hc _ _ _ ⟨_, rfl, Later.mk ?_⟩
    have nxt := fun o' hq' => ih (pre ++ [y]) o' (by simp [h]) hq'
    have hlen : (((pre ++ [y]).length : Nat) : Int) = ((pre.length + 1 : Nat) : Int) := by simp
    rw [hlen, ← hw] at nxt
    refine condD (fun e => ?_) (fun e => ?_)
    · refine hx.ldi hlt ?_
      rw [hy]
      exact nxt y (by rw [maxF, if_pos (by omega)] at hq; exact hq)
    · exact nxt o (by rw [maxF, if_neg (by omega)] at hq; exact hq)
theorem maxFunc_c {m : Mem} {n : Nat} {B X : List Int} {xa : Option Addr} {xc g : Nat} {fst cap : List Value} {Q : Value → Mem → Nat → Prop} {x : Int} (hx : Sl m n xa xc ((x :: X).map vi)) (hl : (x :: X).length ≤ 1000)
    (hc : ∀ a b (Q : Value → Mem → Nat → Prop), Q (vi (ld B a - ld B b)) m n → Wc Try.prog g (fst ++ [vi a, vi b] ++ cap) m n Q) (hq : Q (vi (maxF B x X)) m n) :
    Wc Try.prog fSlicesMaxFuncLintint [.slice xa (x :: X).length xc, .func (.func g) ⟨fst⟩ ⟨cap⟩] m n Q := by
  refine Wc_of mixed (cfg := xcfg) (fuel := 400) ?_
  rw [xSlicesMaxFuncLintint]
  refine condDF (by simp; omega) ?_
  have := hx.ldi (i := 0) (by simp) (K := fun x3 => W Try.prog { fn := fSlicesMaxFuncLintint, nt := 33, slots := [(0, .slice xa (x :: X).length xc), (1, .func (.func g) ⟨fst⟩ ⟨cap⟩), (5, vi x3), (6, .int .i64 1)], todo := pt Try.prog fSlicesMaxFuncLintint [1, 1, 1, 0, 1, 0, 0] } m n Q)
    (maxFunc_loop hx hl hc X [x] x rfl hq)
  simpa using this
end Go.Proofs.Ytiomjekkmjinbaa.Sp11

set_option maxRecDepth 100000
namespace Go.Proofs.Ytiomjekkmjinbaa.Sp11
open Go Go.Ab Sp

theorem intOk : elemOk Try.prog tLint tInt 1 = true := by kernel_rfl
/-- A copy. -/
theorem clone_c {m : Mem} {n : Nat} {a : Option Addr} {c : Nat} {X : List Int} (hx : Sl m n a c (X.map vi)) (hl : X.length ≤ 1000) :
    ∃ a' m' n', Ow m' n n' tInt 1 a' X.length X.length (X.map vi) ∧ Le m n m' n' ∧ (Fs m n → Fs m' n') ∧ Exact Try.prog fSlicesCloneLintint [.slice a X.length c] m n (.slice a' X.length X.length) m' n' := by
  cases ha : a with
  | none =>
    have hX : X = [] := by
      rcases hx with ⟨_, h⟩ | ⟨b, o, s, full, h, _⟩
      · simpa using h
      · rw [ha] at h; cases h
    subst hX
    refine ⟨none, m, n, Ow.nil, Le.refl, fun h => h, fun Q hq => ?_⟩
    refine Wc_of mixed (cfg := xcfg) (fuel := 400) ?_
    rw [xSlicesCloneLintint]
    exact hq
  | some p =>
    obtain ⟨b, o, s⟩ := p
    obtain ⟨r, hr, hre⟩ := hx.nilAt ha
    cases r with
    | true =>
      have hX : X = [] := by simpa using hre rfl
      subst hX
      refine ⟨none, m, n, Ow.nil, Le.refl, fun h => h, fun Q hq => ?_⟩
      refine Wc_of mixed (cfg := xcfg) (fuel := 400) ?_
      rw [xSlicesCloneLintint]
      exact ⟨true, hr, condT rfl hq⟩
    | false =>
      have h0 : Ow (m.set n (.cells none tInt 1 [])) n (n + 1) tInt 1 (some ⟨n, 0, none⟩) 0 0 [] := Ow.new (Nat.le_refl _) rfl
      have hle : Le m n (m.set n (.cells none tInt 1 [])) (n + 1) := Le.new
      obtain ⟨a', m', n', h1, h2, h3, h4, h5, h6⟩ := h0.append (t := tLint) (k := X.length) intOk ((hx.le hle).cells (by simp) (by omega)) (by simp [cellOk]) (by simp) (by omega) (by omega)
      rw [Nat.zero_add] at h1 h2
      rw [List.nil_append] at h2
      refine ⟨a', m', n', h2, ⟨by omega, fun i hi => ?_⟩, fun hf => h6 (Fs.set hf), fun Q hq => ?_⟩
      · rw [h5 i (by omega) (by intro b o s e; cases e; omega)]; exact hle.same i hi
      · refine Wc_of mixed (cfg := xcfg) (fuel := 400) ?_
        rw [xSlicesCloneLintint]
        subst ha
        exact ⟨false, hr, condF rfl (memLet.mk fun m0 hm => by subst hm; exact ⟨_, _, _, _, _, h1, hq⟩)⟩

theorem rev_loop {m0 : Mem} {n0 T : Nat} {a : Option Addr} {c : Nat} {X : List Int} {Q : Value → Mem → Nat → Prop} (hl : X.length ≤ 1000)
    (hq : ∀ m' n', Ow m' n0 n' T 1 a X.length c (X.reverse.map vi) → (∀ j, (∀ b o s, a = some ⟨b, o, s⟩ → j ≠ b) → m'.get j = m0.get j) → Q (.tuple ⟨[]⟩) m' n') :
    ∀ k pre mid post m n, mid.length ≤ k → X = pre ++ (mid ++ post) → pre.length = post.length → Ow m n0 n T 1 a X.length c ((post.reverse ++ (mid ++ pre.reverse)).map vi) → (∀ j, (∀ b o s, a = some ⟨b, o, s⟩ → j ≠ b) → m.get j = m0.get j) →
      W Try.prog { fn := fSlicesReverseLintint, nt := 28, slots := [(0, .slice a X.length c), (2, .int .i64 (pre.length : Nat)), (3, .int .i64 ((X.length : Int) - 1 - pre.length))], todo := pt Try.prog fSlicesReverseLintint [1, 0, 0] } m n Q := by
  intro k
  induction k with
  | zero =>
    intro pre mid post m n hk hX hp ho hs
    obtain rfl : mid = [] := List.length_eq_zero_iff.1 (by omega)
    refine W_of mixed (cfg := xcfg) (fuel := 400) ?_
    rw [xSlicesReverseLintintk0]
    refine condDF (by simp [hX]; omega) (hq m n ?_ hs)
    simpa [hX] using ho
  | succ k ih =>
    intro pre mid post m n hk hX hp ho hs
    refine W_of mixed (cfg := xcfg) (fuel := 400) ?_
    rw [xSlicesReverseLintintk0]
    match hmid : mid, hk with
    | [], _ =>
      refine condDF (by simp [hX]; omega) (hq m n ?_ hs)
      simpa [hX] using ho
    | [x], _ =>
      refine condDF (by simp [hX]; omega) (hq m n ?_ hs)
      simpa [hX] using ho
    | x :: y :: mid', hk =>
      obtain ⟨mm, z, hmz⟩ : ∃ mm z, y :: mid' = mm ++ [z] := ⟨_, _, (List.dropLast_concat_getLast (by simp)).symm⟩
      have hml : mm.length = mid'.length := by have := congrArg List.length hmz; simp at this; omega
      rw [hmz] at hX ho
      have hXl : X.length = pre.length + (mm.length + 2) + post.length := by rw [hX]; simp; omega
      have hj : (X.length : Int) - 1 - pre.length = ((pre.length + mm.length + 1 : Nat) : Int) := by omega
      rw [hj]
      refine condDT (by omega) ?_
      have hsl := ho.sl
      have hlen : ((post.reverse ++ (x :: (mm ++ [z]) ++ pre.reverse))).length = X.length := by simp [hXl]; omega
      have e1 : (post.reverse ++ (x :: (mm ++ [z]) ++ pre.reverse))[pre.length + mm.length + 1]? = some z := by
        rw [List.getElem?_append_right (by simp; omega)]
        have : pre.length + mm.length + 1 - post.reverse.length = mm.length + 1 := by simp; omega
        rw [this]; simp
      have e2 : (post.reverse ++ (x :: (mm ++ [z]) ++ pre.reverse))[pre.length]? = some x := by
        rw [List.getElem?_append_right (by simp; omega)]
        have : pre.length - post.reverse.length = 0 := by simp; omega
        rw [this]; simp
      have g1 := hsl.ldi (i := pre.length + mm.length + 1) (by omega) (K := fun v => v = z) (by have := List.getElem?_eq_some_iff.1 e1; exact this.2)
      have g2 := hsl.ldi (i := pre.length) (by omega) (K := fun v => v = x) (by have := List.getElem?_eq_some_iff.1 e2; exact this.2)
      rw [hlen] at g1 g2
      obtain ⟨b, o, s, ha⟩ : ∃ b o s, a = some ⟨b, o, s⟩ := by
        cases ha : a with
        | none => rw [ha] at g1; exact g1.elim
        | some p => exact ⟨p.block, p.off, p.spot, rfl⟩
      subst ha
      obtain ⟨w1, v1, w2, u1⟩ := g1
      obtain ⟨w3, v2, w4, u2⟩ := g2
      rw [u1] at w2
      rw [u2] at w4
      refine ⟨w1, _, w2, w3, _, w4, ?_⟩
      refine ho.st1 (i := pre.length) (by omega) rfl fun m1 ho1 hs1 => ?_
      refine ho1.st1 (i := pre.length + mm.length + 1) (by simp [hlen]; omega) rfl fun m2 ho2 hs2 => ?_
      refine ⟨Nat.le_refl _, Nat.le_refl _, ?_⟩
      have hw := wrapN (k := pre.length) (by omega)
      have hw2 : IntKind.i64.wrap (((pre.length + mm.length + 1 : Nat) : Int) - 1) = (X.length : Int) - 1 - ((pre ++ [x]).length : Nat) := by rw [wrap_id (by omega) (by omega)]; simp; omega
      rw [hw, hw2]
      have hlp : ((pre.length + 1 : Nat) : Int) = ((pre ++ [x]).length : Nat) := by simp
      rw [hlp]
      refine ih (pre ++ [x]) mm (z :: post) m2 (n + 16) (by simp at hk; omega) (by rw [hX]; simp) (by simp; omega) ?_ fun j hj => (hs2 j hj).trans ((hs1 j hj).trans (hs j hj))
      have hfin : ((post.reverse ++ (x :: (mm ++ [z]) ++ pre.reverse)).set pre.length z).set (pre.length + mm.length + 1) x = (z :: post).reverse ++ (mm ++ (pre ++ [x]).reverse) := by
        rw [List.set_append_right _ _ (by simp; omega)]
        have q1 : pre.length - post.reverse.length = 0 := by simp; omega
        rw [q1]
        simp only [List.cons_append, List.set_cons_zero]
        rw [List.set_append_right _ _ (by simp; omega)]
        have q2 : pre.length + mm.length + 1 - post.reverse.length = mm.length + 1 := by simp; omega
        rw [q2]
        simp only [List.set_cons_succ, List.append_assoc]
        rw [List.set_append_right _ _ (Nat.le_refl _)]
        simp
      rw [hfin] at ho2
      exact ho2.same (by omega) fun _ _ _ _ => rfl
theorem rev_c {m : Mem} {n n0 T : Nat} {a : Option Addr} {c : Nat} {X : List Int} {Q : Value → Mem → Nat → Prop} (hl : X.length ≤ 1000) (ho : Ow m n0 n T 1 a X.length c (X.map vi))
    (hq : ∀ m' n', Ow m' n0 n' T 1 a X.length c (X.reverse.map vi) → (∀ j, (∀ b o s, a = some ⟨b, o, s⟩ → j ≠ b) → m'.get j = m.get j) → Q (.tuple ⟨[]⟩) m' n') : Wc Try.prog fSlicesReverseLintint [.slice a X.length c] m n Q := by
  refine Wc_of mixed (cfg := xcfg) (fuel := 400) ?_
  rw [xSlicesReverseLintint]
  have hw : IntKind.i64.wrap ((X.length : Int) - 1) = (X.length : Int) - 1 - (([] : List Int).length : Nat) := by rw [wrap_id (by omega) (by omega)]; simp
  rw [hw]
  exact rev_loop hl hq X.length [] X [] m n (Nat.le_refl _) (by simp) rfl (by simpa using ho) fun _ _ => rfl
theorem most_c {m : Mem} {n s : Nat} {M B : List Int} {ma ba : Option Addr} {mc bc : Nat} {Q : Value → Mem → Nat → Prop} (h : StV m n s M B ma mc ba bc) (hs : s < n) (hne : M ≠ []) (hq : Q (vi (most M B)) m n) : Wc Try.prog fSpreadstatemost [pp s] m n Q := by
  refine Wc.scalar ?_ rfl hq
  refine Wc_of mixed (cfg := xcfg) (fuel := 400) ?_
  rw [xSpreadstatemost]
  refine memLet.mk fun m0 hm => ?_
  have hle : Le m n m0 (n + 1) := by rw [hm]; exact Le.new
  have g0 : m0.get n = some (.cells none tPspreadstate 1 [pp s]) := by simp [hm, Tr.get_set]
  have h0 := h.le hle hs
  refine ⟨_, rd_of g0 rfl, isC_of h0.get, _, _, _, rd_of h0.get rfl, ?_⟩
  obtain ⟨a', m1, n1, ow, le1, _, run⟩ := clone_c h0.mem h0.lm
  refine run _ ⟨_, _, _, rfl, Later.mk ?_⟩
  have l1 := le1.le
  refine Wc.after (rev_c h0.lm ow fun m2 n2 ow2 hs2 hf2 => ⟨rfl, Later.mk ?_⟩)
  have le2 : Le m0 (n + 1) m2 n2 := by
    refine ⟨?_, fun i hi => (hs2 i fun b o s e => by have := ow.bnd e; omega).trans (le1.same i hi)⟩
    rcases Nat.lt_or_ge n2 (n + 1) with hlt | hge
    · exfalso
      have : m2.get n = _ := (hs2 n fun b o s e => by have := ow.bnd e; omega).trans (le1.get (by omega) g0)
      rw [hf2 n (by omega)] at this; cases this
    · exact hge
  have h2 := h0.le le2 (by omega)
  have g2 := le2.get (by omega) g0
  cases hr : M.reverse with
  | nil => exact (hne (by simpa using hr)).elim
  | cons x X =>
    have hlen : M.length = (x :: X).length := by rw [← hr]; simp
    have sl2 := ow2.sl
    rw [hr, hlen] at sl2
    rw [hlen]
    refine maxFunc_c (B := B) sl2 (by have := h.lm; omega) (fun a b Q hq => most1_c h2 g2 hq) ⟨_, rfl, Later.mk ⟨?_, ?_⟩⟩
    · rw [most_rev B hne, hr]
    · exact hle.trans le2
end Go.Proofs.Ytiomjekkmjinbaa.Sp11

set_option maxRecDepth 100000
namespace Go.Proofs.Ytiomjekkmjinbaa.Sp11
open Go Go.Ab Sp

theorem index_loop {m : Mem} {n0 : Nat} {X : List Int} {xa : Option Addr} {xc : Nat} {v : Int} {Q : Value → Mem → Nat → Prop} (hx : Sl m n0 xa xc (X.map vi)) (hl : X.length ≤ 1000) :
    ∀ l pre n, X = pre ++ l → (∀ r, (decide (r ≥ 0) = l.contains v) → Q (vi r) m n) → W Try.prog { fn := fSlicesIndexLintint, nt := 19, slots := [(0, .slice xa X.length xc), (1, vi v), (7, .int .i64 X.length), (8, .int .i64 pre.length)], todo := pt Try.prog fSlicesIndexLintint [1, 0, 1, 0, 0] } m n Q := by
  intro l
  induction l with
  | nil =>
    intro pre n h hq
    refine W_of mixed (cfg := xcfg) (fuel := 400) ?_
    rw [xSlicesIndexLintintk0]
    exact condDF (by simp [h]) (hq _ (by simp))
  | cons y l ih =>
    intro pre n h hq
    refine W_of mixed (cfg := xcfg) (fuel := 400) ?_
    rw [xSlicesIndexLintintk0]
    have hlt : pre.length < X.length := by simp [h]
    have hy : X[pre.length] = y := by simp [h]
    have hw := wrapN (k := pre.length) (by omega)
    refine condDT (by omega) (hx.ldi hlt ?_)
    rw [hy]
    refine condE (fun e => hq _ (by simp [e])) fun e => ?_
    have := ih (pre ++ [y]) n (by simp [h]) fun r hr => hq r (by rw [hr]; simp [e])
    have hlen : (((pre ++ [y]).length : Nat) : Int) = ((pre.length + 1 : Nat) : Int) := by simp
    rw [hlen, ← hw] at this
    exact this
theorem contains_c {m : Mem} {n : Nat} {X : List Int} {xa : Option Addr} {xc : Nat} {v : Int} {Q : Value → Mem → Nat → Prop} (hx : Sl m n xa xc (X.map vi)) (hl : X.length ≤ 1000) (hq : Q (.bool (X.contains v)) m n) :
    Wc Try.prog fSlicesContainsLintint [.slice xa X.length xc, vi v] m n Q := by
  refine Wc_of mixed (cfg := xcfg) (fuel := 400) ?_
  rw [xSlicesContainsLintint]
  refine Wc_of mixed (cfg := xcfg) (fuel := 400) ?_
  rw [xSlicesIndexLintint]
  exact index_loop hx hl X [] n rfl fun r hr => ⟨_, rfl, Later.mk (by rw [hr]; exact hq)⟩

/-- A wheel: its block, its state's block, the block of its buckets. -/
structure Whl (m : Mem) (n w s b : Nat) (M B : List Int) : Prop where
  get : m.get w = some (.cells none tSpreadWheel 1 [pp s])
  lw : w < n
  ls : s < n
  pos : 0 < B.length
  big : B.length ≤ 256
  st : ∃ ma mc o sp, StV m n s M B ma mc (some ⟨b, o, sp⟩) B.length ∧ Ow m 0 n tInt 1 (some ⟨b, o, sp⟩) B.length B.length (B.map vi)
theorem Whl.cellb {m : Mem} {n w s b : Nat} {M B : List Int} (h : Whl m n w s b M B) : b < n ∧ ∃ full, m.get b = some (.cells none tInt 1 full) := by
  obtain ⟨ma, mc, o, sp, h1, h2, h3, h4⟩ := h.st
  rcases h4 with ⟨h, _⟩ | ⟨b', o', s', full, g1, g2, g3, g4, _⟩
  · cases h
  · cases g1; exact ⟨g3, full, g4⟩
theorem Whl.le {m m' : Mem} {n n' w s b : Nat} {M B : List Int} (h : Whl m n w s b M B) (k : Le m n m' n') : Whl m' n' w s b M B := by
  obtain ⟨ma, mc, o, sp, h1, h2⟩ := h.st
  have := k.le
  exact ⟨k.get h.lw h.get, by have := h.lw; omega, by have := h.ls; omega, h.pos, h.big, ma, mc, o, sp, h1.le k h.ls, h2.le k⟩
theorem Whl.apart {m : Mem} {n w s b : Nat} {M B : List Int} (h : Whl m n w s b M B) : w ≠ s ∧ w ≠ b ∧ s ≠ b := by
  obtain ⟨_, full, hb⟩ := h.cellb
  obtain ⟨ma, mc, o, sp, h1, h2⟩ := h.st
  have hw := h.get
  have hs := h1.get
  refine ⟨?_, ?_, ?_⟩
  · rintro rfl; rw [hw] at hs; simp at hs
  · rintro rfl; rw [hw] at hb; simp only [Option.some.injEq, AObj.cells.injEq] at hb; exact absurd hb.2.1 (by decide)
  · rintro rfl; rw [hs] at hb; simp at hb
theorem valid_c {m : Mem} {n w s b : Nat} {M B : List Int} {Q : Value → Mem → Nat → Prop} (h : Whl m n w s b M B) (hq : Q (.bool true) m n) : Wc Try.prog fSpreadWheelvalid [pp w] m n Q := by
  refine Wc_of mixed (cfg := xcfg) (fuel := 400) ?_
  rw [xSpreadWheelvalid]
  exact ⟨isC_of h.get, _, rd_of h.get rfl, hq⟩
/-- Which member a hash picks. -/
def pickP (M B : List Int) (hash : Int) : Int × Bool := if M = [] then (0, false) else (B.getD (hash.tmod B.length).toNat 0, true)
theorem wrapU {k : Nat} (h : k ≤ 1000000) : IntKind.u64.wrap (k : Int) = k := by
  unfold IntKind.wrap
  simp only [IntKind.bits, IntKind.signed]
  have : (k : Int) % (2 ^ 64 : Int) = k := Int.emod_eq_of_lt (by omega) (by omega)
  rw [show (2 ^ 64 : Int) = 18446744073709551616 by rfl] at this
  simp [this]
theorem Pick_c {m : Mem} {n w s b : Nat} {M B : List Int} {hash : Int} {Q : Value → Mem → Nat → Prop} (h : Whl m n w s b M B) (h0 : 0 ≤ hash) (hq : Q (.tuple ⟨[vi (pickP M B hash).1, .bool (pickP M B hash).2]⟩) m n) : Wc Try.prog fSpreadWheelPick [pp w, .int .u64 hash] m n Q := by
  refine Wc.scalar ?_ rfl hq
  refine Wc_of mixed (cfg := xcfg) (fuel := 400) ?_
  rw [xSpreadWheelPick]
  obtain ⟨ma, mc, o, sp, h1, h2⟩ := h.st
  have hw := wrapU (k := B.length) (by have := h.big; omega)
  have hp := h.pos
  refine valid_c h ⟨_, rfl, Later.mk (condF rfl ⟨isC_of h.get, _, rd_of h.get rfl, isC_of h1.get, _, _, _, rd_of h1.get rfl, ?_⟩)⟩
  refine condE (fun e => ?_) fun e => ?_
  · have hM : M = [] := List.length_eq_zero_iff.1 (by omega)
    exact ⟨by simp [pickP, hM], Le.refl⟩
  · have hM : M ≠ [] := by rintro rfl; simp at e
    refine ⟨isC_of h.get, _, rd_of h.get rfl, isC_of h1.get, _, _, _, rd_of h1.get rfl, isC_of h.get, _, rd_of h.get rfl, isC_of h1.get, _, _, _, rd_of h1.get rfl, ?_⟩
    rw [hw]
    have t1 := Int.tmod_lt_of_pos hash (b := (B.length : Int)) (by omega)
    have t2 := Int.tmod_nonneg (B.length : Int) h0
    refine ⟨by omega, ?_⟩
    have hi : (hash.tmod B.length).toNat < B.length := by omega
    have := h1.bkt.ldi (i := (hash.tmod B.length).toNat) hi (K := fun x => Value.tuple ⟨[vi x, .bool true]⟩ = Value.tuple ⟨[vi (pickP M B hash).1, .bool (pickP M B hash).2]⟩ ∧ Le m n m (n + 22)) ⟨by simp [pickP, hM, List.getD, hi], Le.refl.up (by omega)⟩
    have e1 : (((hash.tmod B.length).toNat : Nat) : Int) = hash.tmod B.length := by omega
    rw [e1] at this
    exact this
end Go.Proofs.Ytiomjekkmjinbaa.Sp11

set_option maxRecDepth 100000
namespace Go.Proofs.Ytiomjekkmjinbaa.Sp11
open Go Go.Ab Sp

@[reducible] noncomputable def setSL (p fb tb : Nat) (v : Value) : Slots := [(2, pp p), (11, pp fb), (12, pp tb), (163, v)]
@[reducible] noncomputable def setPT : List Item := pt Try.prog fSpreadWheelSet [1, 1, 1, 1, 1, 1, 1, 1, 0, 0, 0, 1, 0, 1, 1, 0]
theorem setPT_ok : rfOk 179 setPT 2 = true := by kernel_rfl

/-- What a round of the loop over the buckets, from the last on, looks at. -/
structure Rnd (m : Mem) (n p w s b t fb tb : Nat) (M B : List Int) (fr to : Int) (ma : Option Addr) (mc o : Nat) (sp : Option Nat) : Prop where
  gp : m.get p = some (.cells none tPspreadWheel 1 [pp w])
  gw : m.get w = some (.cells none tSpreadWheel 1 [pp s])
  gs : m.get s = some (.cells none tSpreadstate 2 [.slice ma M.length mc, .slice (some ⟨b, o, sp⟩) B.length B.length])
  gt : m.get t = some (.cells none tLint 1 [.slice (some ⟨b, o, sp⟩) B.length B.length])
  gf : m.get fb = some (.cells none tInt 1 [vi fr])
  gto : m.get tb = some (.cells none tInt 1 [vi to])
  ow : Ow m 0 n tInt 1 (some ⟨b, o, sp⟩) B.length B.length (B.map vi)
theorem Rnd.keep {m m' : Mem} {n p w s b t fb tb : Nat} {M B : List Int} {fr to : Int} {ma : Option Addr} {mc o : Nat} {sp : Option Nat} (h : Rnd m n p w s b t fb tb M B fr to ma mc o sp) (k : KeepC m m') : Rnd m' n p w s b t fb tb M B fr to ma mc o sp :=
  ⟨(k _ (isC_of h.gp)).trans h.gp, (k _ (isC_of h.gw)).trans h.gw, (k _ (isC_of h.gs)).trans h.gs, (k _ (isC_of h.gt)).trans h.gt, (k _ (isC_of h.gf)).trans h.gf, (k _ (isC_of h.gto)).trans h.gto, h.ow.keep (Nat.le_refl _) k⟩
theorem notC {m : Mem} {Y fn nt ds : Nat} {sl : Slots} {st : LoopState} {p : Option Code} {todo : List Item} (h : m.get Y = some (loopO fn nt sl st p todo ds)) : isC m Y = false := by
  unfold isC; rw [h]; unfold loopO; split <;> simp_all <;> (split at * <;> simp_all)
theorem notD {m : Mem} {c : Nat} {d : Option (List Deferred)} (h : m.get c = some (.deferred d)) : isC m c = false := by
  unfold isC; rw [h]

theorem back_loop {p w s b t fb tb Y dn : Nat} {v163 : Value} {M A C : List Int} {fr to : Int} {ma : Option Addr} {mc o : Nat} {sp : Option Nat} (hC : fr ∉ C) (hlen : (A ++ fr :: C).length ≤ 256) :
    ∀ k, k ≤ C.length → ∀ (m : Mem) (n : Nat), Rnd m n p w s b t fb tb M (A ++ fr :: C) fr to ma mc o sp → m.get Y = some (loopO fSpreadWheelSet 179 (setSL p fb tb v163) .ready none setPT dn) →
    ∃ m', (m'.get Y = some (loopO fSpreadWheelSet 179 (setSL p fb tb v163) .done (some (.exit 9)) setPT dn) ∧ Ow m' 0 n tInt 1 (some ⟨b, o, sp⟩) (A ++ fr :: C).length (A ++ fr :: C).length ((A ++ to :: C).map vi) ∧ ∀ i, i ≠ Y → i ≠ b → m'.get i = m.get i) ∧
      ∀ Q : Value → Mem → Nat → Prop, Q (.tuple ⟨[]⟩) m' (n + 11) → W Try.prog { fn := fSlicesBackwardLintint1, nt := 19, slots := [(0, .func (.yield Y) ⟨[]⟩ ⟨[]⟩), (1, pp t), (3, .int .i64 ((A.length + k : Nat) : Int))], todo := pt Try.prog fSlicesBackwardLintint1 [1, 0, 0] } m n Q := by
  intro k
  induction k with
  | zero =>
    intro _ m n h hY
    have hb0 : b < n := (h.ow.bnd rfl).2
    -- the found one
    generalize hm1 : m.set Y (loopO fSpreadWheelSet 179 (setSL p fb tb v163) .busy none setPT dn) = m1
    have hk1 : KeepC m m1 := by rw [← hm1]; exact KeepC.refl.set (notC hY)
    have h1 := h.keep hk1
    have hY1 : m1.get Y = some (loopO fSpreadWheelSet 179 (setSL p fb tb v163) .busy none setPT dn) := by rw [← hm1]; simp [Tr.get_set]
    have hlt : A.length < (A ++ fr :: C).length := by simp
    obtain ⟨b', o', s', m2, e, _, _, l1, l2, l3, l4, l5⟩ := h1.ow.store (j := A.length) (vs := [vi to]) (by simp) (by simp [cellOk]) (by simp)
    cases e
    have hset : ((A ++ fr :: C).map vi).take A.length ++ ([vi to] ++ ((A ++ fr :: C).map vi).drop (A.length + 1)) = (A ++ to :: C).map vi := by
      simp [List.map_append, List.take_left', List.drop_append]
    simp only [List.length_singleton] at l4
    rw [hset] at l4
    have hYb : Y ≠ b := by
      rintro rfl
      have := notC hY1
      rcases h1.ow.2.2 with ⟨h, _⟩ | ⟨b', o', s', full, g1, g2, g3, g4, _⟩
      · cases h
      · cases g1; rw [isC_of g4] at this; cases this
    have hY2 := (l5 Y hYb).trans hY1
    refine ⟨m2.set Y (loopO fSpreadWheelSet 179 (setSL p fb tb v163) .done (some (.exit 9)) setPT dn), ⟨by simp [Tr.get_set], ?_, fun i h1 h2 => ?_⟩, fun Q hq => ?_⟩
    · exact l4.keep (Nat.le_refl _) (KeepC.refl.set (notC hY2))
    · rw [Tr.get_set, if_neg (fun e => h1 e.symm), l5 i h2, ← hm1, Tr.get_set, if_neg (fun e => h1 e.symm)]
    · refine W_of mixed (cfg := xcfg) (fuel := 400) ?_
      rw [xSlicesBackwardLintint1k0]
      refine condDT (by omega) ⟨_, _, _, rd_of h.gt rfl, ?_⟩
      refine h.ow.sl.ldi (i := A.length) (by simp) ?_
      have hg : (A ++ fr :: C)[A.length] = fr := by simp
      rw [hg]
      refine ⟨_, roundA_of hY setPT_ok, ?_⟩
      refine W_of mixed (cfg := xcfg) (fuel := 400) ?_
      rw [xSpreadWheelSetr5]
      refine ⟨_, hY, lpReady_of, ?_⟩
      rw [lpBusy_of]
      refine memLet.mk fun m1' e1 => ?_
      rw [hm1] at e1; subst e1
      refine ⟨_, rd_of h1.gf rfl, condET rfl ⟨_, rd_of h1.gp rfl, isC_of h1.gw, _, rd_of h1.gw rfl, isC_of h1.gs, _, _, _, rd_of h1.gs rfl, _, rd_of h1.gto rfl, ?_⟩⟩
      refine ⟨⟨by omega, by simp; omega, l1, l2⟩, m2, by simpa using l3, Nat.le_refl _, _, hY2, isLp_of, ?_⟩
      rw [lpSet_of]
      exact memLet.mk fun m3 e3 => by subst e3; exact ⟨_, rfl, Later.mk (condT rfl hq)⟩
  | succ k ih =>
    intro hk m n h hY
    generalize hm1 : m.set Y (loopO fSpreadWheelSet 179 (setSL p fb tb v163) .busy none setPT dn) = m1
    have hk1 : KeepC m m1 := by rw [← hm1]; exact KeepC.refl.set (notC hY)
    have h1 := h.keep hk1
    have hY1 : m1.get Y = some (loopO fSpreadWheelSet 179 (setSL p fb tb v163) .busy none setPT dn) := by rw [← hm1]; simp [Tr.get_set]
    generalize hm2 : m1.set Y (loopO fSpreadWheelSet 179 (setSL p fb tb v163) .ready none setPT dn) = m2
    have hk2 : KeepC m1 m2 := by rw [← hm2]; exact KeepC.refl.set (notC hY1)
    have hY2 : m2.get Y = some (loopO fSpreadWheelSet 179 (setSL p fb tb v163) .ready none setPT dn) := by rw [← hm2]; simp [Tr.get_set]
    obtain ⟨m', ⟨q1, q2, q3⟩, run⟩ := ih (by omega) m2 n (h1.keep hk2) hY2
    refine ⟨m', ⟨q1, q2, fun i h1 h2 => ?_⟩, fun Q hq => ?_⟩
    · rw [q3 i h1 h2, ← hm2, Tr.get_set, if_neg (fun e => h1 e.symm), ← hm1, Tr.get_set, if_neg (fun e => h1 e.symm)]
    · refine W_of mixed (cfg := xcfg) (fuel := 400) ?_
      rw [xSlicesBackwardLintint1k0]
      refine condDT (by omega) ⟨_, _, _, rd_of h.gt rfl, ?_⟩
      have hlt : A.length + (k + 1) < (A ++ fr :: C).length := by simp; omega
      refine h.ow.sl.ldi (i := A.length + (k + 1)) hlt ?_
      have hne : (A ++ fr :: C)[A.length + (k + 1)] ≠ fr := by
        rw [List.getElem_append_right (by omega)]
        have e : A.length + (k + 1) - A.length = k + 1 := by omega
        simp only [e, List.getElem_cons_succ]
        exact fun e => hC (e ▸ List.getElem_mem _)
      refine ⟨_, roundA_of hY setPT_ok, ?_⟩
      refine W_of mixed (cfg := xcfg) (fuel := 400) ?_
      rw [xSpreadWheelSetr5]
      refine ⟨_, hY, lpReady_of, ?_⟩
      rw [lpBusy_of]
      refine memLet.mk fun m1' e1 => ?_
      rw [hm1] at e1; subst e1
      refine ⟨_, rd_of h1.gf rfl, condEF hne ⟨_, hY1, isLp_of, ?_⟩⟩
      rw [lpSet_of]
      refine memLet.mk fun m3 e3 => ?_
      rw [hm2] at e3; subst e3
      refine ⟨_, rfl, Later.mk (condF rfl ?_)⟩
      have hw : IntKind.i64.wrap (((A.length + (k + 1) : Nat) : Int) - 1) = ((A.length + k : Nat) : Int) := by
        rw [wrap_id (by simp at hlen; omega) (by simp at hlen; omega)]; omega
      rw [hw]
      exact run Q hq
end Go.Proofs.Ytiomjekkmjinbaa.Sp11

set_option maxRecDepth 100000
namespace Go.Proofs.Ytiomjekkmjinbaa.Sp11
open Go Go.Ab Sp

theorem last_split {a : Int} : ∀ {l : List Int}, a ∈ l → ∃ A C, l = A ++ a :: C ∧ a ∉ C
  | [], h => nomatch h
  | x :: l, h => by
    by_cases hl : a ∈ l
    · obtain ⟨A, C, h1, h2⟩ := last_split hl
      exact ⟨x :: A, C, by rw [h1]; rfl, h2⟩
    · rcases List.mem_cons.1 h with rfl | h
      · exact ⟨[], l, rfl, hl⟩
      · exact (hl h).elim
theorem replLast_split {a b : Int} {C : List Int} (hC : a ∉ C) : ∀ A : List Int, replLast a b (A ++ a :: C) = A ++ b :: C
  | [] => by simp [replLast, hC]
  | x :: A => by
    have : a ∈ A ++ a :: C := by simp
    simp [replLast, replLast_split hC A]

/-- The block of a wheel's members. -/
def memBlk (m : Mem) (s x : Nat) : Prop := ∃ o s' l c r, m.get s = some (.cells none tSpreadstate 2 [.slice (some ⟨x, o, s'⟩) l c, r])
theorem memBlk.of {m m' : Mem} {s x : Nat} (h : memBlk m' s x) (e : m'.get s = m.get s) : memBlk m s x := by
  obtain ⟨o, s', l, c, r, h⟩ := h
  exact ⟨o, s', l, c, r, e ▸ h⟩
/-- How a wheel stands while its members are set. -/
structure SetC (m0 : Mem) (n0 : Nat) (m : Mem) (n p w s b : Nat) (M B : List Int) : Prop where
  gp : m.get p = some (.cells none tPspreadWheel 1 [pp w])
  lp : p < n
  whl : Whl m n w s b M B
  le : n0 ≤ n
  same : ∀ i, i < n0 → i ≠ s → i ≠ b → m.get i = m0.get i
  fs : Fs m n
  old : ∀ x, memBlk m s x → x < n0 → memBlk m0 s x
theorem SetC.up {m0 m : Mem} {n0 n n' p w s b : Nat} {M B : List Int} (h : SetC m0 n0 m n p w s b M B) (k : n ≤ n') : SetC m0 n0 m n' p w s b M B :=
  ⟨h.gp, Nat.lt_of_lt_of_le h.lp k, h.whl.le (Le.refl.up k), Nat.le_trans h.le k, h.same, h.fs.up k, h.old⟩
theorem Whl.keep {m m' : Mem} {n n' w s b : Nat} {M B : List Int} (h : Whl m n w s b M B) (hk : KeepC m m') (k : n ≤ n') : Whl m' n' w s b M B := by
  obtain ⟨ma, mc, o, sp, h1, h2⟩ := h.st
  exact ⟨(hk _ (isC_of h.get)).trans h.get, by have := h.lw; omega, by have := h.ls; omega, h.pos, h.big, ma, mc, o, sp, ⟨(hk _ (isC_of h1.get)).trans h1.get, h1.mem.keep k hk, h1.bkt.keep k hk, h1.lm, h1.lb⟩, h2.keep k hk⟩
/-- What Set leaves. -/
structure SetP (m0 : Mem) (n0 w s b : Nat) (M B : List Int) (m : Mem) (n : Nat) : Prop where
  whl : Whl m n w s b M B
  le : n0 ≤ n
  same : ∀ i, i < n0 → i ≠ s → i ≠ b → m.get i = m0.get i
  fs : Fs m n
  old : ∀ x, memBlk m s x → x < n0 → memBlk m0 s x
theorem SetC.post {m0 m : Mem} {n0 n p w s b : Nat} {M B : List Int} (h : SetC m0 n0 m n p w s b M B) : SetP m0 n0 w s b M B m n := ⟨h.whl, h.le, h.same, h.fs, h.old⟩
structure Cols (m : Mem) (n0 n : Nat) (bs : List Nat) : Prop where
  nd : bs.Nodup
  get : ∀ c ∈ bs, m.get c = some (.deferred (some []))
  lo : ∀ c ∈ bs, n0 ≤ c
  hi : ∀ c ∈ bs, c < n

/-- The wheel, with another state of its lists: after a write to the buckets. -/
theorem Whl.wrote {m m' : Mem} {n n' w s b : Nat} {M B B' : List Int} (h : Whl m n w s b M B) {ma : Option Addr} {mc o : Nat} {sp : Option Nat} (h1 : StV m n s M B ma mc (some ⟨b, o, sp⟩) B.length) (hb : ∀ o s, ma ≠ some ⟨b, o, s⟩) (k : n ≤ n') (hs : ∀ i, isC m i = true → i ≠ b → m'.get i = m.get i)
    (hl : B'.length = B.length) (ho : Ow m' 0 n' tInt 1 (some ⟨b, o, sp⟩) B.length B.length (B'.map vi)) : Whl m' n' w s b M B' := by
  have hap := h.apart
  refine ⟨(hs w (isC_of h.get) hap.2.1).trans h.get, by have := h.lw; omega, by have := h.ls; omega, by rw [hl]; exact h.pos, by rw [hl]; exact h.big, ma, mc, o, sp, ⟨?_, ?_, ?_, h1.lm, by rw [hl]; exact h1.lb⟩, by rw [hl]; exact ho⟩
  · rw [hl]; exact (hs s (isC_of h1.get) hap.2.2).trans h1.get
  · refine h1.mem.same k fun b' o' s' e => ?_
    rcases h1.mem with ⟨g, _⟩ | ⟨b2, o2, s2, full, g1, g2, g3, _⟩
    · rw [g] at e; cases e
    · rw [g1] at e; cases e
      exact hs _ (isC_cellsOf g3) fun e => by subst e; exact hb _ _ g1
  · rw [hl]; exact ho.sl

theorem reb {m0 : Mem} {n0 p w s b : Nat} {M : List Int} (hM : M.Nodup) (hne : M ≠ []) : ∀ (f : Nat) (m : Mem) (n : Nat) (bs : List Nat) (B : List Int) (ma : Option Addr) (mc o : Nat) (sp : Option Nat), sq B M < f → SetC m0 n0 m n p w s b M B →
    StV m n s M B ma mc (some ⟨b, o, sp⟩) B.length → (∀ o s, ma ≠ some ⟨b, o, s⟩) → Ow m 0 n tInt 1 (some ⟨b, o, sp⟩) B.length B.length (B.map vi) → Cols m n0 n bs →
    ∃ m' n', SetP m0 n0 w s b M (rebal M f B) m' n' ∧ ∀ Q : Value → Mem → Nat → Prop, Q (vi 0) m' n' → W Try.prog { fn := fSpreadWheelSet, nt := 179, slots := [(2, pp p)], todo := pt Try.prog fSpreadWheelSet [1, 1, 1, 1, 1, 1, 1, 1, 0, 0, 0], defers := bs.map collD } m n Q
  | 0, m, n, bs, B, ma, mc, o, sp, hf, _, _, _, _, _ => by omega
  | f + 1, m, n, bs, B, ma, mc, o, sp, hf, hc, h1, hmb, how, hcol => by
    have hw := hc.whl
    have hws : s < n := hw.ls
    have gw := hw.get
    have gs := h1.get
    have gp := hc.gp
    have dw := diff_wrap (B := B) h1.lb (most M B) (least M B)
    by_cases hg : gap M B > 1
    · -- one more round
      have hlen := hw.big
      obtain ⟨A, C, hB, hC⟩ := last_split (gap_mem hg)
      have hst : stepB M B = A ++ least M B :: C := by
        unfold stepB
        have := replLast_split (b := least M B) hC A
        rw [← hB] at this
        exact this
      generalize hm1 : (m.set (n + 22 + 10) (.cells none tInt 1 [.int .i64 0])).set (n + 22 + 11) (.cells none tInt 1 [.int .i64 0]) = m1
      generalize hm2 : m1.set (n + 22 + 10) (.cells none tInt 1 [vi (most M B)]) = m2
      generalize hm3 : m2.set (n + 22 + 11) (.cells none tInt 1 [vi (least M B)]) = m3
      generalize hm4 : m3.set (n + 22 + 14) (.cells none tLint 1 [.slice (some ⟨b, o, sp⟩) B.length B.length]) = m4
      generalize hm5 : (m4.set (n + 22 + 14 + 1) (.deferred (some []))).set (n + 22 + 14 + 1 + 1) (loopO fSpreadWheelSet 179 (setSL p (n + 22 + 10) (n + 22 + 11) (.func (.func fSlicesBackwardLintint1) ⟨[]⟩ ⟨[pp (n + 22 + 14)]⟩)) .ready none setPT (n + 22 + 14 + 1)) = m5
      have lo : ∀ i, i < n → m5.get i = m.get i := fun i hi => by
        rw [← hm5, Tr.get_set, if_neg (by omega), Tr.get_set, if_neg (by omega), ← hm4, Tr.get_set, if_neg (by omega), ← hm3, Tr.get_set, if_neg (by omega), ← hm2, Tr.get_set, if_neg (by omega), ← hm1, Tr.get_set, if_neg (by omega), Tr.get_set, if_neg (by omega)]
      have lo3 : ∀ i, i < n → m3.get i = m.get i := fun i hi => by
        rw [← hm3, Tr.get_set, if_neg (by omega), ← hm2, Tr.get_set, if_neg (by omega), ← hm1, Tr.get_set, if_neg (by omega), Tr.get_set, if_neg (by omega)]
      have hle5 : Le m n m5 (n + 22 + 14 + 1 + 2) := ⟨by omega, lo⟩
      have hR : Rnd m5 (n + 22 + 14 + 1 + 2) p w s b (n + 22 + 14) (n + 22 + 10) (n + 22 + 11) M B (most M B) (least M B) ma mc o sp := by
        refine ⟨hle5.get hc.lp gp, hle5.get hw.lw gw, hle5.get hws gs, ?_, ?_, ?_, how.le hle5⟩
        · rw [← hm5, Tr.get_set, if_neg (by omega), Tr.get_set, if_neg (by omega), ← hm4]; simp [Tr.get_set]
        · rw [← hm5, Tr.get_set, if_neg (by omega), Tr.get_set, if_neg (by omega), ← hm4, Tr.get_set, if_neg (by omega), ← hm3, Tr.get_set, if_neg (by omega), ← hm2]; simp [Tr.get_set]
        · rw [← hm5, Tr.get_set, if_neg (by omega), Tr.get_set, if_neg (by omega), ← hm4, Tr.get_set, if_neg (by omega), ← hm3]; simp [Tr.get_set]
      have hY5 : m5.get (n + 22 + 14 + 1 + 1) = some (loopO fSpreadWheelSet 179 (setSL p (n + 22 + 10) (n + 22 + 11) (.func (.func fSlicesBackwardLintint1) ⟨[]⟩ ⟨[pp (n + 22 + 14)]⟩)) .ready none setPT (n + 22 + 14 + 1)) := by rw [← hm5]; simp [Tr.get_set]
      have hd5 : m5.get (n + 22 + 14 + 1) = some (.deferred (some [])) := by rw [← hm5, Tr.get_set, if_neg (by omega)]; simp [Tr.get_set]
      have hR' : Rnd m5 (n + 22 + 14 + 1 + 2) p w s b (n + 22 + 14) (n + 22 + 10) (n + 22 + 11) M (A ++ most M B :: C) (most M B) (least M B) ma mc o sp :=
        ⟨hR.gp, hR.gw, by rw [← hB]; exact hR.gs, by rw [← hB]; exact hR.gt, hR.gf, hR.gto, by rw [← hB]; exact hR.ow⟩
      obtain ⟨m6, ⟨y6, ow6, k6⟩, run6⟩ := back_loop (to := least M B) hC (by rw [← hB]; exact hlen) C.length (Nat.le_refl _) m5 (n + 22 + 14 + 1 + 2) hR' hY5
      rw [← hB] at ow6
      generalize hm7 : m6.set (n + 22 + 14 + 1 + 1) (loopO fSpreadWheelSet 179 (setSL p (n + 22 + 10) (n + 22 + 11) (.func (.func fSlicesBackwardLintint1) ⟨[]⟩ ⟨[pp (n + 22 + 14)]⟩)) .exhausted (some (.exit 9)) setPT (n + 22 + 14 + 1)) = m7
      have k7 : ∀ i, i ≠ n + 22 + 14 + 1 + 1 → i ≠ b → m7.get i = m5.get i := fun i h1 h2 => by rw [← hm7, Tr.get_set, if_neg (fun e => h1 e.symm)]; exact k6 i h1 h2
      have ow7 : Ow m7 0 (n + 22 + 14 + 1 + 2 + 11) tInt 1 (some ⟨b, o, sp⟩) B.length B.length ((A ++ least M B :: C).map vi) := by
        have : KeepC m6 m7 := by rw [← hm7]; exact KeepC.refl.set (notC y6)
        exact ow6.keep (by omega) this
      have hbn : b < n := (how.bnd rfl).2
      have hBl : (stepB M B).length = B.length := replLast_length ..
      have hsame : ∀ i, isC m i = true → i ≠ b → m7.get i = m.get i := fun i hi hib => by
        have hin : i < n := by
          rcases Nat.lt_or_ge i n with h | h
          · exact h
          · have := hc.fs i h; unfold isC at hi; rw [this] at hi; cases hi
        rw [k7 i (by omega) hib, lo i hin]
      rw [← hst] at ow7
      have hw7 : Whl m7 (n + 22 + 14 + 1 + 2 + 11) w s b M (stepB M B) := hw.wrote h1 hmb (by omega) hsame hBl ow7
      have hc7 : SetC m0 n0 m7 (n + 22 + 14 + 1 + 2 + 11) p w s b M (stepB M B) := by
        refine ⟨?_, by have := hc.lp; omega, hw7, by have := hc.le; omega, fun i hi hs hb => ?_, fun i hi => ?_, fun x hx hlx => hc.old x (hx.of (hsame s (isC_of gs) hw.apart.2.2)) hlx⟩
        · have : p ≠ b := by rintro rfl; obtain ⟨_, full, hb⟩ := hw.cellb; rw [gp] at hb; simp only [Option.some.injEq, AObj.cells.injEq] at hb; exact absurd hb.2.1 (by decide)
          rw [k7 p (by have := hc.lp; omega) this, lo p hc.lp]; exact gp
        · rw [k7 i (by have := hc.le; omega) hb, lo i (by have := hc.le; omega)]; exact hc.same i hi hs hb
        · rw [k7 i (by omega) (by omega), ← hm5, Tr.get_set, if_neg (by omega), Tr.get_set, if_neg (by omega), ← hm4, Tr.get_set, if_neg (by omega), ← hm3, Tr.get_set, if_neg (by omega), ← hm2, Tr.get_set, if_neg (by omega), ← hm1, Tr.get_set, if_neg (by omega), Tr.get_set, if_neg (by omega)]
          exact hc.fs i (by omega)
      have hst7 : StV m7 (n + 22 + 14 + 1 + 2 + 11) s M (stepB M B) ma mc (some ⟨b, o, sp⟩) (stepB M B).length := by
        refine ⟨?_, ?_, by rw [hBl]; exact ow7.sl, h1.lm, by rw [hBl]; exact h1.lb⟩
        · rw [hBl]; exact (hsame s (isC_of gs) hw.apart.2.2).trans gs
        · refine h1.mem.same (by omega) fun b' o' s' e => ?_
          rcases h1.mem with ⟨g, _⟩ | ⟨b2, o2, s2, full, g1, g2, g3, _⟩
          · rw [g] at e; cases e
          · rw [g1] at e; cases e
            exact hsame _ (isC_cellsOf g3) fun e => by subst e; exact hmb _ _ g1
      have hcol7 : Cols m7 n0 (n + 22 + 14 + 1 + 2 + 11) ((n + 22 + 14 + 1) :: bs) := by
        have hcb : ∀ c ∈ bs, c ≠ b := fun c hcm => by
          rintro rfl
          obtain ⟨_, full, hb⟩ := hw.cellb
          rw [hcol.get _ hcm] at hb; cases hb
        refine ⟨List.nodup_cons.2 ⟨fun hm => by have := hcol.hi _ hm; omega, hcol.nd⟩, fun c hcm => ?_, fun c hcm => ?_, fun c hcm => ?_⟩
        · rcases List.mem_cons.1 hcm with rfl | hcm
          · rw [k7 _ (by omega) (by omega)]; exact hd5
          · rw [k7 c (by have := hcol.hi c hcm; omega) (hcb c hcm), lo c (hcol.hi c hcm)]; exact hcol.get c hcm
        · rcases List.mem_cons.1 hcm with rfl | hcm
          · have := hc.le; omega
          · exact hcol.lo c hcm
        · rcases List.mem_cons.1 hcm with rfl | hcm
          · omega
          · have := hcol.hi c hcm; omega
      obtain ⟨m', n', hp, run⟩ := reb hM hne f m7 (n + 22 + 14 + 1 + 2 + 11) ((n + 22 + 14 + 1) :: bs) (stepB M B) ma mc o sp (by have := step_lt hM hne hg; omega) hc7 hst7 hmb (by rw [hBl]; exact ow7) hcol7
      refine ⟨m', n', by rw [rebal_go hg]; exact hp, fun Q hq => ?_⟩
      refine W_of mixed (cfg := xcfg) (fuel := 400) ?_
      rw [xSpreadWheelSetk4]
      refine ⟨_, rd_of gp rfl, isC_of gw, _, rd_of gw rfl, _, rd_of gp rfl, isC_of gw, _, rd_of gw rfl, _, _, _, most_c (h1.up (by omega)) (by omega) hne ⟨rfl, rfl, rfl⟩, Later.mk ⟨_, _, _, load_c (h1.up (by omega)) ⟨rfl, rfl, rfl⟩, Later.mk ?_⟩⟩
      refine ⟨_, rd_of gp rfl, isC_of gw, _, rd_of gw rfl, _, rd_of gp rfl, isC_of gw, _, rd_of gw rfl, _, _, _, least_c (h1.up (by omega)) (by omega) hne ⟨rfl, rfl, rfl⟩, Later.mk ⟨_, _, _, load_c (h1.up (by omega)) ⟨rfl, rfl, rfl⟩, Later.mk ?_⟩⟩
      refine ⟨⟨_, rd_of gw rfl, rfl⟩, ⟨_, rd_of gw rfl, rfl⟩, ⟨isC_of gw, rfl⟩, ⟨isC_of gw, rfl⟩, ⟨_, rd_of gp rfl, rfl⟩, ⟨_, rd_of gp rfl, rfl⟩, ⟨_, rd_of gw rfl, rfl⟩, ⟨_, rd_of gw rfl, rfl⟩, ⟨_, rd_of gw rfl, rfl⟩, ⟨isC_of gw, rfl⟩, ⟨isC_of gw, rfl⟩, ⟨isC_of gw, rfl⟩,
        ⟨_, rd_of gp rfl, rfl⟩, ⟨_, rd_of gp rfl, rfl⟩, ⟨_, rd_of gp rfl, rfl⟩, ⟨_, rd_of gw rfl, rfl⟩, ⟨isC_of gw, rfl⟩, ⟨_, rd_of gp rfl, rfl⟩, Nat.le_refl _, Nat.le_refl _, Nat.le_refl _, Nat.le_refl _, ?_⟩
      rw [dw]
      refine condDT hg ?_
      refine ⟨_, rd_of gp rfl, isC_of gw, _, rd_of gw rfl, _, _, _, most_c (h1.up (by omega)) (by omega) hne ⟨rfl, rfl, rfl⟩, Later.mk ?_⟩
      refine ⟨_, rd_of gp rfl, isC_of gw, _, rd_of gw rfl, _, _, _, least_c (h1.up (by omega)) (by omega) hne ⟨rfl, rfl, rfl⟩, Later.mk ?_⟩
      refine memLet.mk fun m1' e1 => ?_
      rw [hm1] at e1; have e1 := e1.symm; subst e1
      have q1 : m1.get (n + 22 + 10) = some (.cells none tInt 1 [.int .i64 0]) := by rw [← hm1, Tr.get_set, if_neg (by omega)]; simp [Tr.get_set]
      have q2 : m2.get (n + 22 + 11) = some (.cells none tInt 1 [.int .i64 0]) := by rw [← hm2, Tr.get_set, if_neg (by omega), ← hm1]; simp [Tr.get_set]
      refine ⟨m2, by rw [← hm2]; exact store_of q1 (by simp) (by simp [cellOk]), m3, by rw [← hm3]; exact store_of q2 (by simp) (by simp [cellOk]), ⟨_, rd_of gw rfl, rfl⟩, ⟨isC_of gw, rfl⟩, ⟨_, rd_of gp rfl, rfl⟩, Nat.le_refl _, Nat.le_refl _, Nat.le_refl _, Nat.le_refl _, hc.fs _ (by omega), hc.fs _ (by omega), hc.fs _ (by omega), hc.fs _ (by omega), ?_⟩
      have gp3 := (lo3 p hc.lp).trans gp
      have gw3 := (lo3 w hw.lw).trans gw
      have gs3 := (lo3 s hws).trans gs
      refine ⟨_, rd_of gp3 rfl, isC_of gw3, _, rd_of gw3 rfl, isC_of gs3, _, _, _, rd_of gs3 rfl, ?_⟩
      refine Wc_of mixed (cfg := xcfg) (fuel := 400) ?_
      rw [xSlicesBackwardLintint]
      refine memLet.mk fun m4' e4 => ?_
      rw [hm4] at e4; subst e4
      refine ⟨_, _, _, rfl, Later.mk (memLet.mk fun m5' e5 => ?_)⟩
      have e5' : m5' = m5 := e5.trans hm5
      subst e5'
      refine Wc_of mixed (cfg := xcfg) (fuel := 400) (?_ : Xc Try.prog xcfg 400 fSlicesBackwardLintint1 [.func (.yield (n + 22 + 14 + 1 + 1)) ⟨[]⟩ ⟨[]⟩, pp (n + 22 + 14)] _ _ _)
      rw [xSlicesBackwardLintint1]
      refine ⟨_, _, _, rd_of hR.gt rfl, ?_⟩
      have hBn : B.length = A.length + C.length + 1 := by have := congrArg List.length hB; simp at this; omega
      have hwl : IntKind.i64.wrap ((B.length : Int) - 1) = ((A.length + C.length : Nat) : Int) := by
        rw [wrap_id (by omega) (by omega)]; omega
      rw [hwl]
      refine run6 _ ⟨_, _, y6, rfl, Later.mk (memLet.mk fun m7' e7 => ?_)⟩
      have e7' : m7' = m7 := e7.trans hm7
      subst e7'
      refine .inl ⟨rfl, run Q hq⟩
    · -- the end
      generalize hm' : clrAll bs m = m'
      have hkc : KeepC m m' := fun i hi => by
        rw [← hm']
        exact clrAll_get bs m i fun hm => by rw [notD (hcol.get i hm)] at hi; cases hi
      refine ⟨m', n + 22, ⟨by rw [rebal_stop hg]; exact hw.keep hkc (by omega), by have := hc.le; omega, fun i hi hs hb => ?_, fun i hi => ?_, fun x hx hlx => hc.old x (hx.of (hkc s (isC_of gs))) hlx⟩, fun Q hq => ?_⟩
      · rw [← hm', clrAll_get bs m i fun hm => by have := hcol.lo i hm; omega]; exact hc.same i hi hs hb
      · rw [← hm', clrAll_get bs m i fun hm => by have := hcol.hi i hm; omega]; exact hc.fs i (by omega)
      · refine W_of mixed (cfg := xcfg) (fuel := 400) ?_
        rw [xSpreadWheelSetk4]
        refine ⟨_, rd_of gp rfl, isC_of gw, _, rd_of gw rfl, _, rd_of gp rfl, isC_of gw, _, rd_of gw rfl, _, _, _, most_c (h1.up (by omega)) (by omega) hne ⟨rfl, rfl, rfl⟩, Later.mk ⟨_, _, _, load_c (h1.up (by omega)) ⟨rfl, rfl, rfl⟩, Later.mk ?_⟩⟩
        refine ⟨_, rd_of gp rfl, isC_of gw, _, rd_of gw rfl, _, rd_of gp rfl, isC_of gw, _, rd_of gw rfl, _, _, _, least_c (h1.up (by omega)) (by omega) hne ⟨rfl, rfl, rfl⟩, Later.mk ⟨_, _, _, load_c (h1.up (by omega)) ⟨rfl, rfl, rfl⟩, Later.mk ?_⟩⟩
        refine ⟨⟨_, rd_of gw rfl, rfl⟩, ⟨_, rd_of gw rfl, rfl⟩, ⟨isC_of gw, rfl⟩, ⟨isC_of gw, rfl⟩, ⟨_, rd_of gp rfl, rfl⟩, ⟨_, rd_of gp rfl, rfl⟩, ⟨_, rd_of gw rfl, rfl⟩, ⟨_, rd_of gw rfl, rfl⟩, ⟨_, rd_of gw rfl, rfl⟩, ⟨isC_of gw, rfl⟩, ⟨isC_of gw, rfl⟩, ⟨isC_of gw, rfl⟩,
          ⟨_, rd_of gp rfl, rfl⟩, ⟨_, rd_of gp rfl, rfl⟩, ⟨_, rd_of gp rfl, rfl⟩, ⟨_, rd_of gw rfl, rfl⟩, ⟨isC_of gw, rfl⟩, ⟨_, rd_of gp rfl, rfl⟩, Nat.le_refl _, Nat.le_refl _, Nat.le_refl _, Nat.le_refl _, ?_⟩
        rw [dw]
        refine condDF hg ⟨bs, ⟨rfl, hcol.nd, hcol.get⟩, memLet.mk fun m'' e => ?_⟩
        rw [hm'] at e; subst e
        exact hq
end Go.Proofs.Ytiomjekkmjinbaa.Sp11

set_option maxRecDepth 100000
namespace Go.Proofs.Ytiomjekkmjinbaa.Sp11
open Go Go.Ab Sp

/-- A wheel in the middle of Set, its lists laid open. -/
structure SetO (m0 : Mem) (n0 : Nat) (m : Mem) (n p w s b : Nat) (M B : List Int) (ma : Option Addr) (mc o : Nat) (sp : Option Nat) : Prop where
  c : SetC m0 n0 m n p w s b M B
  st : StV m n s M B ma mc (some ⟨b, o, sp⟩) B.length
  mb : ∀ o s, ma ≠ some ⟨b, o, s⟩
  ow : Ow m 0 n tInt 1 (some ⟨b, o, sp⟩) B.length B.length (B.map vi)
theorem SetO.up {m0 m : Mem} {n0 n n' p w s b : Nat} {M B : List Int} {ma : Option Addr} {mc o : Nat} {sp : Option Nat} (h : SetO m0 n0 m n p w s b M B ma mc o sp) (k : n ≤ n') : SetO m0 n0 m n' p w s b M B ma mc o sp :=
  ⟨h.c.up k, h.st.up k, h.mb, h.ow.same k fun _ _ _ _ => rfl⟩
/-- A write to a bucket. -/
theorem SetO.put {m0 m m' : Mem} {n0 n p w s b : Nat} {M B : List Int} {ma : Option Addr} {mc o : Nat} {sp : Option Nat} {i : Nat} {x : Int} (h : SetO m0 n0 m n p w s b M B ma mc o sp) (ho : Ow m' 0 n tInt 1 (some ⟨b, o, sp⟩) B.length B.length ((B.set i x).map vi))
    (hs : ∀ j, j ≠ b → m'.get j = m.get j) : SetO m0 n0 m' n p w s b M (B.set i x) ma mc o sp := by
  have hl : (B.set i x).length = B.length := by simp
  have hw := h.c.whl
  have hbn : b < n := (h.ow.bnd rfl).2
  have hpb : p ≠ b := by rintro rfl; obtain ⟨_, full, hb⟩ := hw.cellb; have := h.c.gp; rw [hb] at this; simp only [Option.some.injEq, AObj.cells.injEq] at this; exact absurd this.2.1 (by decide)
  refine ⟨⟨(hs p hpb).trans h.c.gp, h.c.lp, hw.wrote h.st h.mb (Nat.le_refl _) (fun j _ hj => hs j hj) hl ho, h.c.le, fun j hj h1 h2 => (hs j h2).trans (h.c.same j hj h1 h2), fun j hj => (hs j (by omega)).trans (h.c.fs j hj), fun x hx hlx => h.c.old x (hx.of (hs s hw.apart.2.2)) hlx⟩, ⟨?_, ?_, ?_, h.st.lm, ?_⟩, h.mb, ?_⟩
  · rw [hl]; exact (hs s hw.apart.2.2).trans h.st.get
  · refine h.st.mem.same (Nat.le_refl _) fun b' o' s' e => hs b' fun e' => by subst e'; exact h.mb _ _ e
  · rw [hl]; exact ho.sl
  · rw [hl]; exact h.st.lb
  · rw [hl]; exact ho

theorem fill_loop {m0 : Mem} {n0 p w s b : Nat} {M : List Int} {ma : Option Addr} {mc o : Nat} {sp : Option Nat} (hM : M.Nodup) (hne : M ≠ []) {len : Nat} :
    ∀ (post pre : List Int) (m : Mem) (n : Nat), (pre ++ post).length = len → SetO m0 n0 m n p w s b M (pre ++ post) ma mc o sp →
    ∃ m' n', SetP m0 n0 w s b M (rebal M fuelB (fillG M pre post)) m' n' ∧ ∀ Q : Value → Mem → Nat → Prop, Q (vi 0) m' n' →
      W Try.prog { fn := fSpreadWheelSet, nt := 179, slots := [(2, pp p), (100, .slice (some ⟨b, o, sp⟩) len len), (101, .int .i64 len), (102, .int .i64 (pre.length : Nat))], todo := pt Try.prog fSpreadWheelSet [1, 1, 1, 1, 1, 1, 1, 0, 1, 0, 0], defers := [] } m n Q
  | [], pre, m, n, hl, h => by
    simp only [List.append_nil] at hl h
    obtain ⟨m', n', hp, run⟩ := reb hM hne fuelB m n [] pre ma mc o sp (fuel_ok hM h.c.whl.big) h.c h.st h.mb h.ow ⟨List.nodup_nil, (fun _ h => nomatch h), (fun _ h => nomatch h), (fun _ h => nomatch h)⟩
    refine ⟨m', n', hp, fun Q hq => ?_⟩
    refine W_of mixed (cfg := xcfg) (fuel := 400) ?_
    rw [xSpreadWheelSetk3]
    exact condDF (by omega) (run Q hq)
  | x :: post, pre, m, n, hl, h => by
    have hlt : pre.length < (pre ++ x :: post).length := by simp
    have hx : (pre ++ x :: post)[pre.length] = x := by simp
    have hbig := h.c.whl.big
    have hw := wrapN (k := pre.length) (by omega)
    have gw := h.c.whl.get
    have gs := h.st.get
    have gp := h.c.gp
    by_cases hx1 : x = -1
    · -- a free one
      obtain ⟨b', o', s', m1, e, _, _, l1, l2, l3, l4, l5⟩ := (h.up (n' := n + 15) (by omega)).ow.store (j := pre.length) (vs := [vi (least M (pre ++ x :: post))]) (by simp) (by simp [cellOk]) (by simp)
      cases e
      simp only [List.length_singleton] at l4
      rw [map_take_drop_set vi (pre ++ x :: post) pre.length (least M (pre ++ x :: post)) hlt] at l4
      have h1 := (h.up (n' := n + 15) (by omega)).put l4 l5
      have hset : (pre ++ x :: post).set pre.length (least M (pre ++ x :: post)) = (pre ++ [least M (pre ++ x :: post)]) ++ post := by simp
      rw [hset] at h1
      obtain ⟨m', n', hp, run⟩ := fill_loop hM hne (len := len) post (pre ++ [least M (pre ++ x :: post)]) m1 (n + 15) (by rw [← hl]; simp) h1
      refine ⟨m', n', by rw [fillG, if_pos hx1]; exact hp, fun Q hq => ?_⟩
      refine W_of mixed (cfg := xcfg) (fuel := 400) ?_
      rw [xSpreadWheelSetk3]
      refine condDT (by omega) ?_
      have hb := h.ow.sl.ldi hlt (K := fun v => v = x) hx
      rw [hl] at hb
      obtain ⟨q1, _, q2, q3⟩ := hb
      refine ⟨q1, _, q2, condET (by rw [q3]; exact hx1) ⟨_, rd_of gp rfl, isC_of gw, _, rd_of gw rfl, isC_of gs, _, _, _, rd_of gs rfl, _, rd_of gp rfl, isC_of gw, _, rd_of gw rfl, _, _, _, least_c (h.st.up (by omega)) (by have := h.c.whl.ls; omega) hne ⟨rfl, rfl, rfl⟩, Later.mk ?_⟩⟩
      refine ⟨⟨by omega, by omega, l1, l2⟩, m1, by simpa using l3, ⟨_, _, _, rd_of gs rfl, rfl⟩, ⟨isC_of gs, rfl⟩, ⟨_, rd_of gw rfl, rfl⟩, ⟨isC_of gw, rfl⟩, ⟨_, rd_of gp rfl, rfl⟩, Nat.le_refl _, Nat.le_refl _, ?_⟩
      rw [hw]
      have hlen : (((pre ++ [least M (pre ++ x :: post)]).length : Nat) : Int) = ((pre.length + 1 : Nat) : Int) := by simp
      rw [hlen] at run
      exact run Q hq
    · have h1 : SetO m0 n0 m n p w s b M ((pre ++ [x]) ++ post) ma mc o sp := by simpa using h
      obtain ⟨m', n', hp, run⟩ := fill_loop hM hne (len := len) post (pre ++ [x]) m n (by rw [← hl]; simp) h1
      refine ⟨m', n', by rw [fillG, if_neg hx1]; exact hp, fun Q hq => ?_⟩
      refine W_of mixed (cfg := xcfg) (fuel := 400) ?_
      rw [xSpreadWheelSetk3]
      refine condDT (by omega) ?_
      have hb := h.ow.sl.ldi hlt (K := fun v => v = x) hx
      rw [hl] at hb
      obtain ⟨q1, _, q2, q3⟩ := hb
      refine ⟨q1, _, q2, condEF (by rw [q3]; exact hx1) ?_⟩
      rw [hw]
      have hlen : (((pre ++ [x]).length : Nat) : Int) = ((pre.length + 1 : Nat) : Int) := by simp
      rw [hlen] at run
      exact run Q hq
theorem clean_loop {m0 : Mem} {n0 p w s b : Nat} {X : List Int} {xa : Option Addr} {xc : Nat} {ma : Option Addr} {mc o : Nat} {sp : Option Nat} (hX : X.Nodup) (hlX : X.length ≤ 1000) (hap : ∀ o s, xa ≠ some ⟨b, o, s⟩) {len : Nat} :
    ∀ (post pre : List Int) (m : Mem) (n : Nat), (pre ++ post).length = len → SetO m0 n0 m n p w s b X (clean X pre ++ post) ma mc o sp → Sl m n xa xc (X.map vi) →
    ∃ m' n', SetP m0 n0 w s b X (setB X (pre ++ post)) m' n' ∧ ∀ Q : Value → Mem → Nat → Prop, Q (vi 0) m' n' →
      W Try.prog { fn := fSpreadWheelSet, nt := 179, slots := [(1, .slice xa X.length xc), (2, pp p), (70, .slice (some ⟨b, o, sp⟩) len len), (71, .int .i64 len), (72, .int .i64 (pre.length : Nat))], todo := pt Try.prog fSpreadWheelSet [1, 1, 1, 1, 1, 0, 1, 0, 0], defers := [] } m n Q
  | [], pre, m, n, hl, h, hx => by
    simp only [List.append_nil] at hl h
    have hcl : (clean X pre).length = len := by rw [clean_length, hl]
    by_cases he : X = []
    · refine ⟨m, n, ?_, fun Q hq => ?_⟩
      · rw [List.append_nil, setB, if_pos he]; exact h.c.post
      · refine W_of mixed (cfg := xcfg) (fuel := 400) ?_
        rw [xSpreadWheelSetk2]
        refine condDF (by omega) (condET (by simp [he]) ⟨[], ⟨rfl, List.Pairwise.nil, (fun _ h => nomatch h)⟩, memLet.mk fun m' e => by subst e; exact hq⟩)
    · obtain ⟨m', n', hp, run⟩ := fill_loop hX he (len := len) (clean X pre) [] m n (by simpa using hcl) (by simpa using h)
      refine ⟨m', n', ?_, fun Q hq => ?_⟩
      · rw [List.append_nil, setB, if_neg he]; exact hp
      · refine W_of mixed (cfg := xcfg) (fuel := 400) ?_
        rw [xSpreadWheelSetk2]
        have gw := h.c.whl.get
        have gs := h.st.get
        have gp := h.c.gp
        have hxl : (X.length : Int) ≠ 0 := by have := List.length_pos_iff.2 he; omega
        rw [hcl] at gs
        exact condDF (by omega) (condEF hxl ⟨_, rd_of gp rfl, isC_of gw, _, rd_of gw rfl, isC_of gs, _, _, _, rd_of gs rfl, run Q hq⟩)
  | x :: post, pre, m, n, hl, h, hx => by
    have hcl : (clean X pre).length = pre.length := clean_length ..
    have hll : (clean X pre ++ x :: post).length = len := by rw [← hl]; simp [hcl]
    have hlt : pre.length < (clean X pre ++ x :: post).length := by simp [hcl]
    have hg : (clean X pre ++ x :: post)[pre.length] = x := by rw [List.getElem_append_right (by omega)]; simp [hcl]
    have hbig := h.c.whl.big
    have hw := wrapN (k := pre.length) (by omega)
    have gw := h.c.whl.get
    have gs := h.st.get
    have gp := h.c.gp
    have hb := h.ow.sl.ldi hlt (K := fun v => v = x) hg
    rw [hll] at hb
    obtain ⟨q1, _, q2, q3⟩ := hb
    have hlen : (((pre ++ [x]).length : Nat) : Int) = ((pre.length + 1 : Nat) : Int) := by simp
    cases hc : X.contains x with
    | true =>
      have hmem : x ∈ X := by simpa using hc
      have h1 : SetO m0 n0 m n p w s b X (clean X (pre ++ [x]) ++ post) ma mc o sp := by simpa [clean, hmem] using h
      obtain ⟨m', n', hp, run⟩ := clean_loop hX hlX hap (len := len) post (pre ++ [x]) m n (by rw [← hl]; simp) h1 hx
      refine ⟨m', n', by simpa using hp, fun Q hq => ?_⟩
      refine W_of mixed (cfg := xcfg) (fuel := 400) ?_
      rw [xSpreadWheelSetk2]
      refine condDT (by omega) ⟨q1, _, q2, contains_c hx hlX ⟨_, rfl, Later.mk ?_⟩⟩
      rw [q3, hc, hw]
      rw [hlen] at run
      exact condF rfl (run Q hq)
    | false =>
      have hmem : x ∉ X := by simpa using hc
      obtain ⟨b', o', s', m1, e, _, _, l1, l2, l3, l4, l5⟩ := h.ow.store (j := pre.length) (vs := [vi (-1)]) (by simp [hcl]) (by simp [cellOk]) (by simp)
      cases e
      simp only [List.length_singleton] at l4
      rw [map_take_drop_set vi _ pre.length (-1) hlt] at l4
      have h1 := h.put l4 l5
      have hset : (clean X pre ++ x :: post).set pre.length (-1) = clean X (pre ++ [x]) ++ post := by
        rw [List.set_append_right _ _ (by omega), hcl]
        simp [clean, hmem]
      rw [hset] at h1
      obtain ⟨m', n', hp, run⟩ := clean_loop hX hlX hap (len := len) post (pre ++ [x]) m1 n (by rw [← hl]; simp) h1 (hx.same (Nat.le_refl _) fun b' o' s' e => l5 b' fun e' => by subst e'; exact hap _ _ e)
      refine ⟨m', n', by simpa using hp, fun Q hq => ?_⟩
      refine W_of mixed (cfg := xcfg) (fuel := 400) ?_
      rw [xSpreadWheelSetk2]
      refine condDT (by omega) ⟨q1, _, q2, contains_c hx hlX ⟨_, rfl, Later.mk ?_⟩⟩
      rw [q3, hc]
      refine condT rfl ⟨_, rd_of gp rfl, isC_of gw, _, rd_of gw rfl, isC_of gs, _, _, _, rd_of gs rfl, ⟨by omega, by omega, l1, l2⟩, m1, by simpa using l3, ?_⟩
      rw [hw]
      rw [hlen] at run
      exact run Q hq
end Go.Proofs.Ytiomjekkmjinbaa.Sp11

set_option maxRecDepth 100000
namespace Go.Proofs.Ytiomjekkmjinbaa.Sp11
open Go Go.Ab Sp

theorem val_loop {m0 m : Mem} {n0 n p w s b : Nat} {M B X : List Int} {xa : Option Addr} {xc : Nat} (h : SetC m0 n0 m n p w s b M B) (hx : Sl m n xa xc (X.map vi)) (hlX : X.length ≤ 1000) (hap : ∀ o s', xa ≠ some ⟨b, o, s'⟩) (haps : ∀ o s', xa ≠ some ⟨s, o, s'⟩) (hs0 : s < n0) :
    ∀ l pre, X = pre ++ l → setErr X none = setErr l pre.getLast? → ∃ m' n', SetP m0 n0 w s b (setF X M B).2.1 (setF X M B).2.2 m' n' ∧ ∀ Q : Value → Mem → Nat → Prop, Q (vi (setF X M B).1) m' n' →
      W Try.prog { fn := fSpreadWheelSet, nt := 179, slots := [(1, .slice xa X.length xc), (2, pp p), (18, .slice xa X.length xc), (19, .int .i64 X.length), (20, .int .i64 (pre.length : Nat))], todo := pt Try.prog fSpreadWheelSet [1, 1, 0, 1, 0, 0], defers := [] } m n Q
  | [], pre, hX, he => by
    have he0 : setErr X none = 0 := he
    obtain ⟨ma, mc, o, sp, h1, h2⟩ := h.whl.st
    have gw := h.whl.get
    have gs := h1.get
    have gp := h.gp
    have hpl : pre.length = X.length := by simp [hX]
    by_cases hlen : (X.length : Int) > B.length
    · have hF : setF X M B = (7, (M, B)) := by unfold Sp.setF; rw [if_neg (by simp [he0]), if_pos hlen]
      rw [hF]
      refine ⟨m, n, h.post, fun Q hq => ?_⟩
      refine W_of mixed (cfg := xcfg) (fuel := 400) ?_
      rw [xSpreadWheelSetk1]
      exact condDF (by omega) ⟨_, rd_of gp rfl, isC_of gw, _, rd_of gw rfl, isC_of gs, _, _, _, rd_of gs rfl, condDT hlen ⟨[], ⟨rfl, List.Pairwise.nil, (fun _ h => nomatch h)⟩, memLet.mk fun m' e => by subst e; exact hq⟩⟩
    · have hF : setF X M B = (0, (X, setB X B)) := by unfold Sp.setF; rw [if_neg (by simp [he0]), if_neg hlen]
      rw [hF]
      obtain ⟨hnd, _, _⟩ := setErr_nodup X none he0
      obtain ⟨pa, m1, n1, ow1, le1, fs1, run1⟩ := clone_c (hx.same (n' := n + 9) (by omega) fun _ _ _ _ => rfl) hlX
      have l1 := le1.le
      have hws := h.whl.ls
      have hwl := h.whl.lw
      have hlp := h.lp
      have gs1 := le1.get (by omega) gs
      have gp1 := le1.get (by omega) gp
      have gw1 := le1.get (by omega) gw
      generalize hm2 : m1.set s (.cells none tSpreadstate 2 [.slice pa X.length X.length, .slice (some ⟨b, o, sp⟩) B.length B.length]) = m2
      have hap3 := h.whl.apart
      obtain ⟨hbn, full, hbg⟩ := h.whl.cellb
      have k2 : ∀ i, i ≠ s → m2.get i = m1.get i := fun i hi => by rw [← hm2, Tr.get_set, if_neg (fun e => hi e.symm)]
      have gs2 : m2.get s = some (.cells none tSpreadstate 2 [.slice pa X.length X.length, .slice (some ⟨b, o, sp⟩) B.length B.length]) := by rw [← hm2]; simp [Tr.get_set]
      have gp2 := (k2 p (by rintro rfl; rw [gs] at gp; simp at gp)).trans gp1
      have gw2 := (k2 w hap3.1).trans gw1
      have hneX : pa ≠ none → ∀ b' o' s', pa = some ⟨b', o', s'⟩ → n + 9 ≤ b' := fun _ b' o' s' e => (ow1.bnd e).1
      have slX : Sl m2 n1 pa X.length (X.map vi) := ow1.sl.same (Nat.le_refl _) fun b' o' s' e => k2 b' (by have := ow1.bnd e; omega)
      have owB : Ow m2 0 n1 tInt 1 (some ⟨b, o, sp⟩) B.length B.length (B.map vi) := h2.same (by omega) fun b' o' s' e => by cases e; exact (k2 b (fun e => hap3.2.2 e.symm)).trans (le1.same b (by omega))
      have hst2 : StV m2 n1 s X B pa X.length (some ⟨b, o, sp⟩) B.length := ⟨gs2, slX, owB.sl, hlX, h1.lb⟩
      have hwh2 : Whl m2 n1 w s b X B := ⟨gw2, by omega, by omega, h.whl.pos, h.whl.big, pa, _, o, sp, hst2, owB⟩
      have hO : SetO m0 n0 m2 n1 p w s b X B pa X.length o sp := by
        refine ⟨⟨gp2, by omega, hwh2, by have := h.le; omega, fun i hi hs hb => ?_, fun i hi => ?_, fun x hx hlx => ?_⟩, hst2, fun o' s' e => by have := ow1.bnd e; omega, owB⟩
        · rw [k2 i hs, le1.same i (by have := h.le; omega)]; exact h.same i hi hs hb
        · rw [k2 i (by omega)]; exact fs1 (h.fs.up (by omega)) i hi
        · obtain ⟨o', s', l', c', r', e⟩ := hx
          rw [gs2] at e
          simp only [Option.some.injEq, AObj.cells.injEq, List.cons.injEq, Value.slice.injEq, true_and, and_true] at e
          have := ow1.bnd e.1.1
          have := h.le
          omega
      have slx2 : Sl m2 n1 xa xc (X.map vi) := hx.same (by omega) fun b' o' s' e => (k2 b' (by rintro rfl; exact haps _ _ e)).trans (le1.same b' (by have := hx.lt e; omega))
      obtain ⟨m', n', hp, run⟩ := clean_loop hnd hlX hap (len := B.length) B [] m2 n1 rfl (by simpa [clean] using hO) slx2
      refine ⟨m', n', by simpa using hp, fun Q hq => ?_⟩
      refine W_of mixed (cfg := xcfg) (fuel := 400) ?_
      rw [xSpreadWheelSetk1]
      refine condDF (by omega) ⟨_, rd_of gp rfl, isC_of gw, _, rd_of gw rfl, isC_of gs, _, _, _, rd_of gs rfl, condDF hlen ⟨_, rd_of gp rfl, isC_of gw, _, rd_of gw rfl, _, _, _, _, _, run1 _ ⟨rfl, rfl, rfl⟩, Later.mk ?_⟩⟩
      refine ⟨isC_of gs1, m2, by rw [← hm2]; exact store_of gs1 (by simp) (by simp [cellOk]), ⟨_, rd_of gw1 rfl, rfl⟩, ⟨isC_of gw1, rfl⟩, ⟨_, rd_of gp1 rfl, rfl⟩, by omega, by omega, _, rd_of gp2 rfl, isC_of gw2, _, rd_of gw2 rfl, isC_of gs2, _, _, _, rd_of gs2 rfl, ?_⟩
      exact run Q hq
  | x :: l, pre, hX, he => by
    have hlt : pre.length < X.length := by simp [hX]
    have hg : X[pre.length] = x := by simp [hX]
    have hw := wrapN (k := pre.length) (by omega)
    have fail : ∀ e, setErr X none = e → e ≠ 0 → SetP m0 n0 w s b (setF X M B).2.1 (setF X M B).2.2 m n ∧ (setF X M B).1 = e := fun e h1 h2 => by
      have hF : setF X M B = (e, (M, B)) := by unfold Sp.setF; rw [if_pos (by rw [h1]; exact h2), h1]
      rw [hF]; exact ⟨h.post, rfl⟩
    have ret : ∀ (e : Int) (Q : Value → Mem → Nat → Prop), Q (.int .i64 e) m n → ∃ l4 : List Nat, (([] : List Deferred) = l4.map collD ∧ l4.Pairwise (· ≠ ·) ∧ ∀ k, List.Mem k l4 → m.get k = some (.deferred (some []))) ∧ memLet (clrAll l4 m) fun m6 => Q (.int .i64 e) m6 n := fun e Q hq =>
      ⟨[], ⟨rfl, List.Pairwise.nil, (fun _ h => nomatch h)⟩, memLet.mk fun m' e => by subst e; exact hq⟩
    simp only [setErr] at he
    by_cases h1 : x < 0
    · rw [if_pos h1] at he
      obtain ⟨q1, q2⟩ := fail 2 he (by decide)
      refine ⟨m, n, q1, fun Q hq => ?_⟩
      rw [q2] at hq
      refine W_of mixed (cfg := xcfg) (fuel := 400) ?_
      rw [xSpreadWheelSetk1]
      refine condDT (by omega) (hx.ldi hlt ?_)
      rw [hg]
      exact condDT h1 (ret 2 Q hq)
    by_cases h2 : x ≥ 128
    · rw [if_neg h1, if_pos h2] at he
      obtain ⟨q1, q2⟩ := fail 2 he (by decide)
      refine ⟨m, n, q1, fun Q hq => ?_⟩
      rw [q2] at hq
      refine W_of mixed (cfg := xcfg) (fuel := 400) ?_
      rw [xSpreadWheelSetk1]
      refine condDT (by omega) (hx.ldi hlt ?_)
      rw [hg]
      exact condDF h1 (condDT h2 (ret 2 Q hq))
    rw [if_neg h1, if_neg h2] at he
    have hlen : (((pre ++ [x]).length : Nat) : Int) = ((pre.length + 1 : Nat) : Int) := by simp
    have hlast : (pre ++ [x]).getLast? = some x := by simp
    by_cases h3 : (pre.length : Int) > 0
    · have hp := wrapP (k := pre.length) (by omega) (by omega)
      have hlst : pre.getLast? = some X[pre.length - 1] := by
        rw [List.getLast?_eq_getElem?]
        have : pre.length - 1 < pre.length := by omega
        simp [hX, List.getElem_append, this]
      rw [hlst] at he
      simp only at he
      by_cases h4 : x ≤ X[pre.length - 1]
      · rw [if_pos h4] at he
        obtain ⟨q1, q2⟩ := fail 10 he (by decide)
        refine ⟨m, n, q1, fun Q hq => ?_⟩
        rw [q2] at hq
        refine W_of mixed (cfg := xcfg) (fuel := 400) ?_
        rw [xSpreadWheelSetk1]
        refine condDT (by omega) (hx.ldi hlt ?_)
        rw [hg]
        refine condDF h1 (condDF h2 (condDT h3 ?_))
        rw [hp]
        exact hx.ldi (i := pre.length - 1) (by omega) (condDT h4 (ret 10 Q hq))
      · rw [if_neg h4] at he
        obtain ⟨m', n', q, run⟩ := val_loop h hx hlX hap haps hs0 l (pre ++ [x]) (by simp [hX]) (by rw [he, hlast])
        refine ⟨m', n', q, fun Q hq => ?_⟩
        refine W_of mixed (cfg := xcfg) (fuel := 400) ?_
        rw [xSpreadWheelSetk1]
        refine condDT (by omega) (hx.ldi hlt ?_)
        rw [hg]
        refine condDF h1 (condDF h2 (condDT h3 ?_))
        rw [hp]
        refine hx.ldi (i := pre.length - 1) (by omega) (condDF h4 ?_)
        rw [hw]
        rw [hlen] at run
        exact run Q hq
    · have hpre : pre = [] := List.length_eq_zero_iff.1 (by omega)
      have hlst : pre.getLast? = none := by rw [hpre]; rfl
      rw [hlst] at he
      obtain ⟨m', n', q, run⟩ := val_loop h hx hlX hap haps hs0 l (pre ++ [x]) (by simp [hX]) (by rw [he, hlast])
      refine ⟨m', n', q, fun Q hq => ?_⟩
      refine W_of mixed (cfg := xcfg) (fuel := 400) ?_
      rw [xSpreadWheelSetk1]
      refine condDT (by omega) (hx.ldi hlt ?_)
      rw [hg]
      refine condDF h1 (condDF h2 (condDF h3 ?_))
      rw [hw]
      rw [hlen] at run
      exact run Q hq
theorem Set_c {m : Mem} {n w s b : Nat} {M B X : List Int} {xa : Option Addr} {xc : Nat} (h : Whl m n w s b M B) (hf : Fs m n) (hx : Sl m n xa xc (X.map vi)) (hlX : X.length ≤ 1000) (hap : ∀ o s', xa ≠ some ⟨b, o, s'⟩) (haps : ∀ o s', xa ≠ some ⟨s, o, s'⟩) :
    ∃ m' n', SetP m n w s b (setF X M B).2.1 (setF X M B).2.2 m' n' ∧ Exact Try.prog fSpreadWheelSet [pp w, .slice xa X.length xc] m n (vi (setF X M B).1) m' n' := by
  generalize hm1 : m.set n (.cells none tPspreadWheel 1 [pp w]) = m1
  have hle : Le m n m1 (n + 1) := by rw [← hm1]; exact Le.new
  have hc : SetC m n m1 (n + 1) n w s b M B := ⟨by rw [← hm1]; simp [Tr.get_set], by omega, h.le hle, by omega, fun i hi _ _ => hle.same i hi, by rw [← hm1]; exact hf.set, fun x hx _ => hx.of (hle.same s h.ls)⟩
  obtain ⟨m', n', q, run⟩ := val_loop hc (hx.le hle) hlX hap haps h.ls X [] rfl rfl
  refine ⟨m', n', q, fun Q hq => ?_⟩
  refine Wc_of mixed (cfg := xcfg) (fuel := 400) ?_
  rw [xSpreadWheelSet]
  refine memLet.mk fun m1' e => ?_
  rw [hm1] at e; have e := e.symm; subst e
  refine W_of1 mixed (cfg := xcfg) (fuel := 400) ?_
  rw [xSpreadWheelSetk0]
  exact ⟨_, rd_of hc.gp rfl, valid_c hc.whl ⟨_, rfl, Later.mk (condF rfl (run Q hq))⟩⟩
end Go.Proofs.Ytiomjekkmjinbaa.Sp11

set_option maxRecDepth 100000
namespace Go.Proofs.Ytiomjekkmjinbaa.Sp11
open Go Go.Ab

theorem andLow {y : Nat} (h : y < 4294967296) : (BitVec.ofInt 64 (y : Int) &&& BitVec.ofInt 64 4294967295).toNat = y := by
  have e1 : BitVec.ofInt 64 (y : Int) = BitVec.ofNat 64 y := by simp
  have e2 : BitVec.ofInt 64 4294967295 = BitVec.ofNat 64 4294967295 := rfl
  rw [e1, e2, BitVec.toNat_and, BitVec.toNat_ofNat, BitVec.toNat_ofNat, Nat.mod_eq_of_lt (by omega), Nat.mod_eq_of_lt (by decide)]
  have := Nat.and_two_pow_sub_one_eq_mod y 32
  rw [show (2 ^ 32 - 1 : Nat) = 4294967295 by decide] at this
  rw [this]; omega
theorem wrap64 {x : Nat} (h : x < 4294967296) : IntKind.u64.wrap (x : Int) = x := by
  unfold IntKind.wrap
  simp only [IntKind.bits, IntKind.signed]
  have : (x : Int) % (2 ^ 64 : Int) = x := Int.emod_eq_of_lt (by omega) (by omega)
  rw [show (2 ^ 64 : Int) = 18446744073709551616 by rfl] at this
  simp [this]
theorem mul64_c {m : Mem} {n k : Nat} {Q : Value → Mem → Nat → Prop} (hk : k ≤ 1000000) (hq : Q (.tuple ⟨[.int .u64 0, .int .u64 k]⟩) m n) : Wc Try.prog fMathbitsMul [.int .u64 ((1 : Nat) : Int), .int .u64 (k : Int)] m n Q := by
  refine Wc_of mixed (cfg := xcfg) (fuel := 400) ?_
  rw [xMathbitsMul]
  refine Wc_of mixed (cfg := xcfg) (fuel := 400) ?_
  rw [xMathbitsMul64]
  refine ⟨by decide, by decide, by decide, by decide, by decide, _, _, rfl, Later.mk ?_⟩
  have w0 : IntKind.u64.wrap 0 = 0 := by decide
  have w1 : IntKind.u64.wrap 1 = 1 := by decide
  have d1 : ((1 : Nat) : Int).fdiv 4294967296 = 0 := by decide
  have dk : (k : Int).fdiv 4294967296 = 0 := by rw [Int.fdiv_eq_ediv_of_nonneg _ (by omega)]; omega
  have a1 := andLow (y := 1) (by decide)
  have ak := andLow (y := k) (by omega)
  have wk := wrap64 (x := k) (by omega)
  have l0 : (BitVec.ofInt 64 0 &&& BitVec.ofInt 64 4294967295).toNat = 0 := by decide
  have z0 : (0 : Int).fdiv 4294967296 = 0 := by decide
  rw [d1, dk, a1, ak, wk]
  simp only [Int.zero_mul, Int.mul_zero, w0, Int.natCast_one, w1, Int.one_mul, wk, dk, Int.add_zero, l0, Int.natCast_zero, z0]
  exact hq

theorem rep_loop {m0 : Mem} {nb k : Nat} {v : Int} (hk : 0 < k) (hk2 : k ≤ 1000) : ∀ (f d : Nat) (m : Mem) (n : Nat), d ≤ k → 0 < d → k - d ≤ f → m.get nb = some (.cells none tInt 1 (List.replicate d (vi v) ++ List.replicate (k - d) (vi 0))) → (∀ i, i ≠ nb → m.get i = m0.get i) →
    ∃ m' n', (m'.get nb = some (.cells none tInt 1 (List.replicate k (vi v))) ∧ (∀ i, i ≠ nb → m'.get i = m0.get i) ∧ n ≤ n') ∧ ∀ Q : Value → Mem → Nat → Prop, Q (.slice (some ⟨nb, 0, none⟩) k k) m' n' →
      W Try.prog { fn := fSlicesRepeatLintint, nt := 48, slots := [(7, .slice (some ⟨nb, 0, none⟩) k k), (8, .int .i64 (d : Nat))], todo := pt Try.prog fSlicesRepeatLintint [1, 1, 1, 1, 1, 1, 0, 0, 0] } m n Q := by
  intro f
  induction f with
  | zero =>
    intro d m n h1 h2 h3 hg hs
    obtain rfl : d = k := by omega
    refine ⟨m, n, ⟨by simpa using hg, hs, Nat.le_refl _⟩, fun Q hq => ?_⟩
    refine W_of mixed (cfg := xcfg) (fuel := 400) ?_
    rw [xSlicesRepeatLintintk2]
    exact condDF (by omega) hq
  | succ f ih =>
    intro d m n h1 h2 h3 hg hs
    by_cases hd : d = k
    · subst hd
      refine ⟨m, n, ⟨by simpa using hg, hs, Nat.le_refl _⟩, fun Q hq => ?_⟩
      refine W_of mixed (cfg := xcfg) (fuel := 400) ?_
      rw [xSlicesRepeatLintintk2]
      exact condDF (by omega) hq
    · generalize he : min d (k - d) = e
      generalize hm1 : m.set nb (.cells none tInt 1 (List.replicate (d + e) (vi v) ++ List.replicate (k - (d + e)) (vi 0))) = m1
      have hg1 : m1.get nb = some (.cells none tInt 1 (List.replicate (d + e) (vi v) ++ List.replicate (k - (d + e)) (vi 0))) := by rw [← hm1]; simp [Tr.get_set]
      obtain ⟨m', n', ⟨p1, p2, p3⟩, run⟩ := ih (d + e) m1 (n + 10) (by omega) (by omega) (by omega) hg1 fun i hi => by rw [← hm1, Tr.get_set, if_neg (fun e => hi e.symm)]; exact hs i hi
      refine ⟨m', n', ⟨p1, p2, by omega⟩, fun Q hq => ?_⟩
      refine W_of mixed (cfg := xcfg) (fuel := 400) ?_
      rw [xSlicesRepeatLintintk2]
      refine condDT (by omega) ?_
      refine ⟨⟨by omega, by omega⟩, ⟨by omega, by omega⟩, (e : Int), m1, ?_, Nat.le_refl _, ?_⟩
      · have hkd : ¬ k = d := by omega
        have hk0 : ¬ k = 0 := by omega
        simp only [Int.toNat_natCast, Nat.sub_zero, hkd, if_false, hk0]
        have hund : Try.prog.underlying tLint = some (.slice tInt) := by kernel_rfl
        have hsz : szOf Try.prog tInt = some 1 := by kernel_rfl
        have hsc : sliceCells m 1 (min d (k - d)) (.slice (some ⟨nb, 0, none⟩) d k) = some (List.replicate e (vi v)) := by
          rw [he]
          have : e ≤ d := by omega
          simp only [sliceCells, if_pos this, cellsOf, hg, takeAt]
          have hle : 0 + e * 1 ≤ (List.replicate d (vi v) ++ List.replicate (k - d) (vi 0)).length := by simp; omega
          rw [if_pos hle]
          simp [List.take_append_of_le_length, this]
        unfold copyV
        simp only [hund, hsz, hsc]
        have hne : ¬ min d (k - d) = 0 := by omega
        have hcap : 0 < k - d := by omega
        simp only [hne, if_false, hcap, if_true]
        have hst := store_of (m := m) (b := nb) (T := tInt) (sz := 1) (off := d) (vs := List.replicate e (vi v)) hg (by simp; omega) (by simp [cellOk])
        have hcs : (List.replicate d (vi v) ++ List.replicate (k - d) (vi 0)).take d ++ (List.replicate e (vi v) ++ (List.replicate d (vi v) ++ List.replicate (k - d) (vi 0)).drop (d + (List.replicate e (vi v)).length)) = List.replicate (d + e) (vi v) ++ List.replicate (k - (d + e)) (vi 0) := by
          rw [List.take_left' (by simp), ← List.append_assoc, List.replicate_append_replicate, List.length_replicate]
          congr 1
          have : d + e = (List.replicate d (vi v)).length + e := by simp
          rw [this, List.drop_append]
          simp; omega
        rw [hcs, hm1] at hst
        simp only [offOf, Nat.mul_one, Nat.zero_add, hst, he]
      · have hw : IntKind.i64.wrap ((d : Int) + (e : Int)) = ((d + e : Nat) : Int) := by rw [wrap_id (by omega) (by omega)]; omega
        rw [hw]
        exact run Q hq
theorem repeat_c {m : Mem} {n k : Nat} {v : Int} {xa : Option Addr} {xc : Nat} (hx : Sl m n xa xc [vi v]) (hk : 0 < k) (hk2 : k ≤ 1000) :
    ∃ m' n', m'.get n = some (.cells none tInt 1 (List.replicate k (vi v))) ∧ n < n' ∧ (∀ i, i ≠ n → m'.get i = m.get i) ∧ Exact Try.prog fSlicesRepeatLintint [.slice xa 1 xc, .int .i64 (k : Int)] m n (.slice (some ⟨n, 0, none⟩) k k) m' n' := by
  generalize hm1 : (m.set n (.cells none tInt 1 (List.replicate k (vi 0)))).set n (.cells none tInt 1 (List.replicate 1 (vi v) ++ List.replicate (k - 1) (vi 0))) = m1
  have hg1 : m1.get n = some (.cells none tInt 1 (List.replicate 1 (vi v) ++ List.replicate (k - 1) (vi 0))) := by rw [← hm1]; simp [Tr.get_set]
  obtain ⟨m', n', ⟨p1, p2, p3⟩, run⟩ := rep_loop (m0 := m1) hk hk2 k 1 m1 (n + 1) (by omega) (by omega) (by omega) hg1 fun _ _ => rfl
  refine ⟨m', n', p1, by omega, fun i hi => by rw [p2 i hi, ← hm1, Tr.get_set, if_neg (fun e => hi e.symm), Tr.get_set, if_neg (fun e => hi e.symm)], fun Q hq => ?_⟩
  refine Wc_of mixed (cfg := xcfg) (fuel := 400) ?_
  rw [xSlicesRepeatLintint]
  refine condDF (by omega) ?_
  refine W_of1 mixed (cfg := xcfg) (fuel := 400) ?_
  rw [xSlicesRepeatLintintk0]
  have w1 : IntKind.u64.wrap ((1 : Nat) : Int) = ((1 : Nat) : Int) := by decide
  rw [w1, wrap64 (x := k) (by omega)]
  refine mul64_c (by omega) ⟨_, _, rfl, Later.mk (condDF (by decide) (condDF (by omega) ?_))⟩
  refine W_of1 mixed (cfg := xcfg) (fuel := 400) ?_
  rw [xSlicesRepeatLintintk1]
  have hw : IntKind.i64.wrap (k : Int) = (k : Int) := wrap_id (by omega) (by omega)
  rw [hw]
  refine ⟨⟨by omega, by omega, by omega⟩, memLet.mk fun m0 e0 => ?_⟩
  have hfl : (List.replicate (k : Int).toNat [Value.int IntKind.i64 0]).flatten = List.replicate k (vi 0) := by simp [List.flatten_replicate_singleton]
  rw [hfl] at e0
  have hg0 : m0.get n = some (.cells none tInt 1 (List.replicate k (vi 0))) := by rw [e0]; simp [Tr.get_set]
  refine ⟨1, m1, ?_, ?_⟩
  · have hund : Try.prog.underlying tLint = some (.slice tInt) := by kernel_rfl
    have hsz : szOf Try.prog tInt = some 1 := by kernel_rfl
    have hmin : min 1 k = 1 := by omega
    have hle : Le m n m0 (n + 1) := by rw [e0]; exact Le.new
    have hsc := (hx.le hle).cells (l := 1) (sz := 1) rfl (by omega)
    unfold copyV
    simp only [Int.toNat_natCast, hund, hsz, hmin, hsc]
    have hst := store_of (m := m0) (b := n) (T := tInt) (sz := 1) (off := 0) (vs := [vi v]) hg0 (by simp; omega) (by simp [cellOk])
    have hcs : (List.replicate k (vi 0)).take 0 ++ ([vi v] ++ (List.replicate k (vi 0)).drop (0 + [vi v].length)) = List.replicate 1 (vi v) ++ List.replicate (k - 1) (vi 0) := by simp
    rw [hcs] at hst
    have hm : m0.set n (.cells none tInt 1 (List.replicate 1 (vi v) ++ List.replicate (k - 1) (vi 0))) = m1 := by
      rw [e0]; exact hm1
    rw [hm] at hst
    simp only [offOf, hst, hk, if_true]
    rfl
  · exact run Q hq
end Go.Proofs.Ytiomjekkmjinbaa.Sp11

set_option maxRecDepth 100000
namespace Go.Proofs.Ytiomjekkmjinbaa.Sp11
open Go Go.Ab Sp

end Go.Proofs.Ytiomjekkmjinbaa.Sp11

set_option maxRecDepth 100000
namespace Go.Proofs.Ytiomjekkmjinbaa.Sp11
open Go Go.Ab Sp

end Go.Proofs.Ytiomjekkmjinbaa.Sp11

set_option maxRecDepth 100000
namespace Go.Proofs.Ytiomjekkmjinbaa.Sp11
open Go Go.Ab Sp
/-- The values that a run comes to. -/
def valsR (r : Res) : Option (List Value) := r.map (List.map fun q => q.1)
def hstep (h b : Int) : Int := IntKind.u64.wrap (IntKind.u64.wrap (((BitVec.ofInt 64 h ^^^ BitVec.ofInt 64 (IntKind.u64.wrap b)).toNat : Nat) : Int) * 1099511628211)
def by8 (x : Int) (k : Nat) : Int := IntKind.u8.wrap ((IntKind.u64.wrap x).fdiv (2 ^ min (IntKind.i64.wrap (8 * (k : Int))).toNat 64))
def hashE (a b e v : Int) : Int := [by8 a 3, by8 a 2, by8 a 1, by8 a 0, by8 b 3, by8 b 2, by8 b 1, by8 b 0, by8 e 1, by8 e 0, by8 v 2, by8 v 1, by8 v 0].foldl hstep 14695981039346656037
abbrev pkt (p0 p1 p2 p3 p4 p5 p6 p7 p8 p9 p10 p11 p12 p13 p14 p15 p16 p17 p18 p19 p20 : Int) : List Value := [.int .u32 p0, .int .u32 p1, .int .i64 p2, .int .i64 p3, .int .u32 p4, .int .u32 p5, .int .u64 p6, .int .u64 p7, .int .i64 p8, .int .i64 p9, .int .u64 p10, .int .u32 p11, .int .u64 p12, .int .u32 p13, .int .u32 p14, .int .u32 p15, .int .i64 p16, .int .i64 p17, .int .i64 p18, .int .i64 p19, .int .u64 p20]
set_option maxRecDepth 1000000 in
theorem hash_run (p0 p1 p2 p3 p4 p5 p6 p7 p8 p9 p10 p11 p12 p13 p14 p15 p16 p17 p18 p19 p20 : Int) :
    valsR (callK Try.prog (fun _ => none) 1000000000 fSpreadHash [.agg ⟨pkt p0 p1 p2 p3 p4 p5 p6 p7 p8 p9 p10 p11 p12 p13 p14 p15 p16 p17 p18 p19 p20⟩] .leaf 0) = some [.int .u64 (hashE p0 p1 p3 p4)] := by kernel_rfl
theorem Wc.valued {f : FuncId} {args : List Value} {u : Value} {m : Mem} {n : Nat} {Q : Value → Mem → Nat → Prop} (ha : blwL Dm.none args = true) (hu : blw Dm.none u = true)
    (h : valsR (callK Try.prog (fun _ => none) 1000000000 f args .leaf 0) = some [u]) (hq : Q u m n) : Wc Try.prog f args m n Q := by
  refine Wc.closed (R := fun v => v = u) ha ?_ (fun v hv => by subst hv; exact hq)
  unfold callK at h
  unfold Wc
  split at h
  · rename_i fr hen
    rw [hen]
    cases hr : evF (evK Try.prog (fun _ => none) 1000000000) fr .leaf 0 with
    | none => rw [hr] at h; simp [valsR] at h
    | some rs =>
      rw [hr] at h
      refine ((evK_sound (draw_ok mixed) (fun _ => none) 1000000000).rec fr .leaf 0 rs hr).mono fun v m' n' hm => ?_
      simp only [valsR, Option.map_some, Option.some.injEq] at h
      have hv : v ∈ rs.map (fun q => q.1) := List.mem_map.2 ⟨_, hm, rfl⟩
      rw [h] at hv
      have hv := List.mem_singleton.1 hv
      exact ⟨hv, by rw [hv]; exact hu⟩
  · simp [valsR] at h
theorem hash_c {p0 p1 p2 p3 p4 p5 p6 p7 p8 p9 p10 p11 p12 p13 p14 p15 p16 p17 p18 p19 p20 : Int} {m : Mem} {n : Nat} {Q : Value → Mem → Nat → Prop} (hq : Q (.int .u64 (hashE p0 p1 p3 p4)) m n) :
    Wc Try.prog fSpreadHash [.agg ⟨pkt p0 p1 p2 p3 p4 p5 p6 p7 p8 p9 p10 p11 p12 p13 p14 p15 p16 p17 p18 p19 p20⟩] m n Q := Wc.valued rfl rfl (hash_run ..) hq
end Go.Proofs.Ytiomjekkmjinbaa.Sp11
