/- WSets: what parts of the program compute; helper of the claim. -/
import Derived.Test.YtblijemhmpfihaaE11
import Derived.Test.YtblijemhmpfihaaAb42
import Derived.Test.YtblijemhmpfihaaAb43
import Derived.Test.YtblijemhmpfihaaKnown11
/- The plain law of wheels: members, buckets. -/
namespace Go.Proofs.Sp

def ld (B : List Int) (m : Int) : Int := (B.count m : Nat)
theorem ld_nonneg (B : List Int) (m : Int) : 0 ≤ ld B m := Int.natCast_nonneg _
theorem ld_le (B : List Int) (m : Int) : ld B m ≤ B.length := by unfold ld; have := List.count_le_length (a := m) (l := B); omega

/-- The first least, the last greatest. -/
def minF (B : List Int) : Int → List Int → Int
  | o, [] => o
  | o, x :: l => minF B (if ld B x < ld B o then x else o) l
def least (M B : List Int) : Int := match M with
  | [] => 0
  | x :: l => minF B x l
def maxG (B : List Int) : Int → List Int → Int
  | o, [] => o
  | o, x :: l => maxG B (if ld B x ≥ ld B o then x else o) l
def most (M B : List Int) : Int := match M with
  | [] => 0
  | x :: l => maxG B x l
def maxF (B : List Int) : Int → List Int → Int
  | o, [] => o
  | o, x :: l => maxF B (if ld B x > ld B o then x else o) l

theorem maxF_cons (B : List Int) : ∀ (t : List Int) (x h : Int), maxF B x (h :: t) = if ld B (maxF B h t) > ld B x then maxF B h t else x
  | [], x, h => by simp [maxF]
  | k :: t, x, h => by
    rw [maxF, maxF_cons B t, maxF_cons B t]
    by_cases h1 : ld B h > ld B x <;> by_cases h2 : ld B (maxF B k t) > ld B h <;> by_cases h3 : ld B (maxF B k t) > ld B x <;> simp [h1, h2, h3] <;> omega
theorem maxG_snoc (B : List Int) (y : Int) : ∀ (l : List Int) (o : Int), maxG B o (l ++ [y]) = if ld B y ≥ ld B (maxG B o l) then y else maxG B o l
  | [], o => rfl
  | x :: l, o => by simp only [List.cons_append, maxG]; exact maxG_snoc B y l _
/-- The last greatest of a list is the first greatest of the list turned round. -/
theorem maxF_rev (B : List Int) : ∀ (r : List Int) (x : Int), (∀ h t, (r ++ [x]).reverse = h :: t → maxG B h t = maxF B (match r ++ [x] with | [] => 0 | a :: _ => a) (match r ++ [x] with | [] => [] | _ :: l => l))
  | [], x, h, t, e => by simp at e; obtain ⟨rfl, rfl⟩ := e; rfl
  | a :: r, x, h, t, e => by
    simp only [List.cons_append, List.reverse_cons] at e
    -- the first is last
    cases hr : (r ++ [x]).reverse with
    | nil => simp at hr
    | cons h' t' =>
      rw [hr] at e
      simp only [List.cons_append, List.cons.injEq] at e
      obtain ⟨rfl, rfl⟩ := e
      rw [maxG_snoc]
      have ih := maxF_rev B r x h' t' hr
      rw [ih]
      cases hq : r ++ [x] with
      | nil => simp at hq
      | cons b l =>
        simp only [List.cons_append, hq, maxF_cons]
        by_cases h1 : ld B (maxF B b l) > ld B a
        · rw [if_pos h1, if_neg (by omega)]
        · rw [if_neg h1, if_pos (by omega)]
theorem most_rev (B : List Int) {M : List Int} (h : M ≠ []) : most M B = match M.reverse with | [] => 0 | a :: l => maxF B a l := by
  have hne : M.reverse ≠ [] := by simpa using h
  obtain ⟨r, x, hr⟩ : ∃ r x, M.reverse = r ++ [x] := ⟨_, _, (List.dropLast_concat_getLast hne).symm⟩
  have hM : M = (r ++ [x]).reverse := by rw [← hr, List.reverse_reverse]
  cases hm : M with
  | nil => exact (h hm).elim
  | cons a l =>
    have := maxF_rev B r x a l (by rw [← hM, hm])
    have h2 : (a :: l).reverse = r ++ [x] := by rw [← hm, hr]
    rw [h2]
    show maxG B a l = _
    rw [this]
    cases r ++ [x] <;> rfl

theorem minF_mem (B : List Int) : ∀ (l : List Int) (o : Int), minF B o l = o ∨ minF B o l ∈ l
  | [], o => .inl rfl
  | x :: l, o => by
    simp only [minF]
    rcases minF_mem B l (if ld B x < ld B o then x else o) with h | h
    · by_cases hx : ld B x < ld B o
      · rw [if_pos hx] at h ⊢; exact .inr (by rw [h]; exact List.mem_cons_self ..)
      · rw [if_neg hx] at h ⊢; exact .inl h
    · exact .inr (List.mem_cons_of_mem _ h)
theorem minF_le (B : List Int) : ∀ (l : List Int) (o : Int), ld B (minF B o l) ≤ ld B o ∧ ∀ x ∈ l, ld B (minF B o l) ≤ ld B x
  | [], o => ⟨Int.le_refl _, fun x h => by cases h⟩
  | y :: l, o => by
    simp only [minF]
    have ⟨h1, h2⟩ := minF_le B l (if ld B y < ld B o then y else o)
    by_cases hx : ld B y < ld B o
    · rw [if_pos hx] at h1 h2 ⊢
      exact ⟨by omega, fun x h => by rcases List.mem_cons.1 h with rfl | h; exact h1; exact h2 x h⟩
    · rw [if_neg hx] at h1 h2 ⊢
      exact ⟨h1, fun x h => by rcases List.mem_cons.1 h with rfl | h; omega; exact h2 x h⟩
theorem least_mem {M : List Int} (B : List Int) (h : M ≠ []) : least M B ∈ M := by
  cases M with
  | nil => exact (h rfl).elim
  | cons x l =>
    rcases minF_mem B l x with h | h
    · rw [least, h]; exact List.mem_cons_self ..
    · exact List.mem_cons_of_mem _ h
theorem least_le {M : List Int} (B : List Int) {m : Int} (h : m ∈ M) : ld B (least M B) ≤ ld B m := by
  cases M with
  | nil => cases h
  | cons x l =>
    have ⟨h1, h2⟩ := minF_le B l x
    rcases List.mem_cons.1 h with rfl | h
    · exact h1
    · exact h2 m h
theorem maxG_mem (B : List Int) : ∀ (l : List Int) (o : Int), maxG B o l = o ∨ maxG B o l ∈ l
  | [], o => .inl rfl
  | x :: l, o => by
    simp only [maxG]
    rcases maxG_mem B l (if ld B x ≥ ld B o then x else o) with h | h
    · by_cases hx : ld B x ≥ ld B o
      · rw [if_pos hx] at h ⊢; exact .inr (by rw [h]; exact List.mem_cons_self ..)
      · rw [if_neg hx] at h ⊢; exact .inl h
    · exact .inr (List.mem_cons_of_mem _ h)
theorem maxG_ge (B : List Int) : ∀ (l : List Int) (o : Int), ld B (maxG B o l) ≥ ld B o ∧ ∀ x ∈ l, ld B (maxG B o l) ≥ ld B x
  | [], o => ⟨Int.le_refl _, fun x h => by cases h⟩
  | y :: l, o => by
    simp only [maxG]
    have ⟨h1, h2⟩ := maxG_ge B l (if ld B y ≥ ld B o then y else o)
    by_cases hx : ld B y ≥ ld B o
    · rw [if_pos hx] at h1 h2 ⊢
      exact ⟨by omega, fun x h => by rcases List.mem_cons.1 h with rfl | h; exact h1; exact h2 x h⟩
    · rw [if_neg hx] at h1 h2 ⊢
      exact ⟨h1, fun x h => by rcases List.mem_cons.1 h with rfl | h; omega; exact h2 x h⟩
theorem most_mem {M : List Int} (B : List Int) (h : M ≠ []) : most M B ∈ M := by
  cases M with
  | nil => exact (h rfl).elim
  | cons x l =>
    rcases maxG_mem B l x with h | h
    · rw [most, h]; exact List.mem_cons_self ..
    · exact List.mem_cons_of_mem _ h
theorem most_ge {M : List Int} (B : List Int) {m : Int} (h : m ∈ M) : ld B m ≤ ld B (most M B) := by
  cases M with
  | nil => cases h
  | cons x l =>
    have ⟨h1, h2⟩ := maxG_ge B l x
    rcases List.mem_cons.1 h with rfl | h
    · exact h1
    · exact h2 m h

/- the three steps of Set -/
def clean (next B : List Int) : List Int := B.map fun b => if b ∈ next then b else -1
def fillG (M : List Int) : List Int → List Int → List Int
  | pre, [] => pre
  | pre, x :: post => fillG M (pre ++ [if x = -1 then least M (pre ++ x :: post) else x]) post
def replLast (a b : Int) : List Int → List Int
  | [] => []
  | x :: l => if a ∈ l then x :: replLast a b l else if x = a then b :: l else x :: l
def gap (M B : List Int) : Int := ld B (most M B) - ld B (least M B)
def stepB (M B : List Int) : List Int := replLast (most M B) (least M B) B
def rebal (M : List Int) : Nat → List Int → List Int
  | 0, B => B
  | f + 1, B => if gap M B > 1 then rebal M f (stepB M B) else B
def setErr (next : List Int) (prev : Option Int) : Int := match next with
  | [] => 0
  | x :: l => if x < 0 then 2 else if x ≥ 128 then 2 else match prev with
    | some p => if x ≤ p then 10 else setErr l (some x)
    | none => setErr l (some x)
def fuelB : Nat := 70000
def setB (next B : List Int) : List Int := if next = [] then clean next B else rebal next fuelB (fillG next [] (clean next B))
def setF (next : List Int) (M B : List Int) : Int × (List Int × List Int) :=
  if setErr next none ≠ 0 then (setErr next none, (M, B)) else if (next.length : Int) > B.length then (7, (M, B)) else (0, (next, setB next B))

theorem replLast_length (a b : Int) : ∀ l : List Int, (replLast a b l).length = l.length
  | [] => rfl
  | x :: l => by
    simp only [replLast]
    split
    · simp [replLast_length a b l]
    · split <;> simp
theorem fillG_length (M : List Int) : ∀ (post pre : List Int), (fillG M pre post).length = pre.length + post.length
  | [], pre => by simp [fillG]
  | x :: post, pre => by simp [fillG, fillG_length M post]; omega
theorem clean_length (next B : List Int) : (clean next B).length = B.length := by simp [clean]
theorem rebal_length (M : List Int) : ∀ (f : Nat) (B : List Int), (rebal M f B).length = B.length
  | 0, _ => rfl
  | f + 1, B => by
    simp only [rebal]
    split
    · rw [rebal_length M f, stepB, replLast_length]
    · rfl
theorem setB_length (next B : List Int) : (setB next B).length = B.length := by
  unfold setB
  split
  · exact clean_length ..
  · rw [rebal_length, fillG_length, clean_length]; simp
end Go.Proofs.Sp

/- The plain law of wheels: the loop ends; what it keeps. -/
namespace Go.Proofs.Sp

theorem replLast_count {a b : Int} (hab : a ≠ b) (x : Int) : ∀ {l : List Int}, a ∈ l → (replLast a b l).count x + (if x = a then 1 else 0) = l.count x + (if x = b then 1 else 0)
  | [], h => by cases h
  | y :: l, h => by
    simp only [replLast]
    split
    · rename_i hl
      have := replLast_count hab x hl
      simp only [List.count_cons]
      omega
    · rename_i hl
      have hy : y = a := by
        rcases List.mem_cons.1 h with h | h
        · exact h.symm
        · exact (hl h).elim
      subst hy
      simp only [if_true, List.count_cons]
      by_cases h1 : x = y
      · subst h1
        have : ¬ x = b := hab
        have h2 : (b == x) = false := by simp; exact fun e => hab e.symm
        simp [this, h2]
      · have h2 : (y == x) = false := by simp; exact fun e => h1 e.symm
        by_cases h3 : x = b
        · subst h3; simp [h2, h1]
        · have h4 : (b == x) = false := by simp; exact fun e => h3 e.symm
          simp [h1, h2, h3, h4]
def sq (B : List Int) : List Int → Nat
  | [] => 0
  | x :: M => B.count x * B.count x + sq B M
theorem sq_same {B C : List Int} : ∀ {M : List Int}, (∀ x ∈ M, C.count x = B.count x) → sq C M = sq B M
  | [], _ => rfl
  | x :: M, h => by simp only [sq]; rw [h x (List.mem_cons_self ..), sq_same fun y hy => h y (List.mem_cons_of_mem _ hy)]
/-- One count goes up, the others stay. -/
theorem sq_up {B C : List Int} {b : Int} : ∀ {M : List Int}, M.Nodup → b ∈ M → (∀ x ∈ M, x ≠ b → C.count x = B.count x) → C.count b = B.count b + 1 → sq C M = sq B M + 2 * B.count b + 1
  | [], _, h, _, _ => by cases h
  | x :: M, hn, hm, h, hb => by
    obtain ⟨hx, hn⟩ := List.nodup_cons.1 hn
    simp only [sq]
    by_cases e : x = b
    · subst e
      rw [hb, sq_same (B := B) (C := C) fun y hy => h y (List.mem_cons_of_mem _ hy) fun e => hx (e ▸ hy)]
      simp only [Nat.add_mul, Nat.mul_add]; omega
    · have hm' : b ∈ M := by
        rcases List.mem_cons.1 hm with h | h
        · exact (e h.symm).elim
        · exact h
      rw [h x (List.mem_cons_self ..) e, sq_up hn hm' (fun y hy => h y (List.mem_cons_of_mem _ hy)) hb]
      omega
theorem sq_step {B C : List Int} {a b : Int} : ∀ {M : List Int}, M.Nodup → a ∈ M → b ∈ M → a ≠ b → (∀ x ∈ M, x ≠ a → x ≠ b → C.count x = B.count x) → C.count a + 1 = B.count a → C.count b = B.count b + 1 → B.count b + 2 ≤ B.count a → sq C M < sq B M
  | [], _, h, _, _, _, _, _, _ => by cases h
  | x :: M, hn, ha, hb, hab, h, h1, h2, h3 => by
    obtain ⟨hx, hn⟩ := List.nodup_cons.1 hn
    have tl : ∀ {y}, y ∈ x :: M → x ≠ y → y ∈ M := fun {y} hy hne => by
      rcases List.mem_cons.1 hy with h | h
      · exact (hne h.symm).elim
      · exact h
    simp only [sq]
    by_cases ea : x = a
    · subst ea
      have hb' := tl hb hab
      have := sq_up (B := B) (C := C) hn hb' (fun y hy hyb => h y (List.mem_cons_of_mem _ hy) (fun e => hx (e ▸ hy)) hyb) h2
      rw [this]
      have e : B.count x * B.count x = C.count x * C.count x + 2 * C.count x + 1 := by rw [← h1]; simp only [Nat.add_mul, Nat.mul_add]; omega
      omega
    · by_cases eb : x = b
      · subst eb
        have ha' := tl ha ea
        -- turned round
        have := sq_up (B := C) (C := B) hn ha' (fun y hy hya => (h y (List.mem_cons_of_mem _ hy) hya (fun e => hx (e ▸ hy))).symm) h1.symm
        rw [this]
        have e : C.count x * C.count x = B.count x * B.count x + 2 * B.count x + 1 := by rw [h2]; simp only [Nat.add_mul, Nat.mul_add]; omega
        omega
      · rw [h x (List.mem_cons_self ..) ea eb]
        have := sq_step (B := B) (C := C) hn (tl ha ea) (tl hb eb) hab (fun y hy => h y (List.mem_cons_of_mem _ hy)) h1 h2 h3
        omega
theorem sq_le {B : List Int} {k : Nat} (hk : B.length ≤ k) : ∀ M : List Int, M.Nodup → sq B M ≤ k * B.length := by
  intro M hM
  -- the counts of different members come to at most the length
  have key : ∀ (M : List Int), M.Nodup → ∀ B : List Int, (M.map B.count).sum ≤ B.length := by
    intro M
    induction M with
    | nil => intro _ B; simp
    | cons x M ih =>
      intro hn B
      obtain ⟨hx, hn⟩ := List.nodup_cons.1 hn
      have h1 := ih hn (B.filter (· != x))
      have h2 : (M.map (B.filter (· != x)).count) = M.map B.count := List.map_congr_left fun y hy => by
        rw [List.count_filter]
        simp; exact fun e => hx (e ▸ hy)
      rw [h2] at h1
      have h3 : B.count x + (B.filter (· != x)).length = B.length := by
        have := List.length_eq_countP_add_countP (p := (· == x)) (l := B)
        rw [List.count, this, List.countP_eq_length_filter (p := fun a => decide ¬(a == x) = true)]
        congr 2
        exact List.filter_congr fun y _ => by simp; rfl
      simp only [List.map_cons, List.sum_cons]
      omega
  have h1 := key M hM B
  have h2 : ∀ M : List Int, sq B M ≤ k * (M.map B.count).sum := by
    intro M
    induction M with
    | nil => simp [sq]
    | cons x M ih =>
      simp only [sq, List.map_cons, List.sum_cons, Nat.mul_add]
      have : B.count x ≤ k := Nat.le_trans (List.count_le_length) hk
      have := Nat.mul_le_mul_right (B.count x) this
      omega
  exact Nat.le_trans (h2 M) (Nat.mul_le_mul_left k h1)

theorem gap_two {M B : List Int} (h : gap M B > 1) : B.count (least M B) + 2 ≤ B.count (most M B) := by
  unfold gap ld at h; omega
theorem gap_mem {M B : List Int} (h : gap M B > 1) : most M B ∈ B := by
  have := gap_two h
  exact List.count_pos_iff.1 (by omega)
theorem gap_ne {M B : List Int} (h : gap M B > 1) : most M B ≠ least M B := by
  intro e
  have := gap_two h
  rw [e] at this; omega
theorem step_count {M B : List Int} (h : gap M B > 1) (x : Int) : (stepB M B).count x + (if x = most M B then 1 else 0) = B.count x + (if x = least M B then 1 else 0) :=
  replLast_count (gap_ne h) x (gap_mem h)
theorem step_lt {M B : List Int} (hM : M.Nodup) (hne : M ≠ []) (h : gap M B > 1) : sq (stepB M B) M < sq B M := by
  have hne' := gap_ne h
  have h0 : ¬ least M B = most M B := fun e => hne' e.symm
  refine sq_step hM (most_mem B hne) (least_mem B hne) hne' (fun x _ ha hb => ?_) ?_ ?_ (gap_two h)
  · have := step_count h x
    rw [if_neg ha, if_neg hb] at this; omega
  · have := step_count h (most M B)
    rw [if_pos rfl, if_neg hne'] at this; omega
  · have := step_count h (least M B)
    rw [if_neg h0, if_pos rfl] at this; omega
theorem rebal_stop {M B : List Int} (h : ¬ gap M B > 1) : ∀ f, rebal M f B = B
  | 0 => rfl
  | f + 1 => by rw [rebal, if_neg h]
theorem rebal_go {M B : List Int} {f : Nat} (h : gap M B > 1) : rebal M (f + 1) B = rebal M f (stepB M B) := by rw [rebal, if_pos h]
/-- Fuel enough. -/
theorem fuel_ok {M B : List Int} (hM : M.Nodup) (hl : B.length ≤ 256) : sq B M < fuelB := by
  have h1 := sq_le hl M hM
  have h2 : 256 * B.length ≤ 256 * 256 := Nat.mul_le_mul_left _ hl
  unfold fuelB; omega
theorem rebal_gap {M : List Int} (hM : M.Nodup) (hne : M ≠ []) : ∀ (f : Nat) (B : List Int), sq B M < f → ¬ gap M (rebal M f B) > 1
  | 0, B, h => by omega
  | f + 1, B, h => by
    by_cases hg : gap M B > 1
    · rw [rebal_go hg]
      exact rebal_gap hM hne f _ (by have := step_lt hM hne hg; omega)
    · rw [rebal_stop hg]; exact hg
theorem setErr_nodup : ∀ (X : List Int) (p : Option Int), setErr X p = 0 → X.Nodup ∧ (∀ q, p = some q → ∀ x ∈ X, q < x) ∧ ∀ x ∈ X, 0 ≤ x ∧ x < 128
  | [], p, _ => ⟨List.nodup_nil, (fun _ _ _ h => nomatch h), (fun _ h => nomatch h)⟩
  | x :: X, p, h => by
    simp only [setErr] at h
    by_cases h1 : x < 0
    · rw [if_pos h1] at h; cases h
    by_cases h2 : x ≥ 128
    · rw [if_neg h1, if_pos h2] at h; cases h
    rw [if_neg h1, if_neg h2] at h
    have key : setErr X (some x) = 0 ∧ ∀ q, p = some q → q < x := by
      cases p with
      | none => exact ⟨h, fun q e => by cases e⟩
      | some p =>
        simp only at h
        by_cases h3 : x ≤ p
        · rw [if_pos h3] at h; cases h
        · rw [if_neg h3] at h; exact ⟨h, fun q e => by cases e; omega⟩
    obtain ⟨i1, i2, i3⟩ := setErr_nodup X (some x) key.1
    refine ⟨List.nodup_cons.2 ⟨fun hx => by have := i2 x rfl x hx; omega, i1⟩, fun q e y hy => ?_, fun y hy => ?_⟩
    · have := key.2 q e
      rcases List.mem_cons.1 hy with rfl | hy
      · exact this
      · have := i2 x rfl y hy; omega
    · rcases List.mem_cons.1 hy with rfl | hy
      · omega
      · exact i3 y hy
end Go.Proofs.Sp

/- The plain law of wheels: what Set leads to. -/
namespace Go.Proofs.Sp

/-- Members: ascending, in range. -/
def Asc (M : List Int) : Prop := M.Pairwise (· < ·) ∧ ∀ x ∈ M, 0 ≤ x ∧ x < 128
theorem Asc.nodup {M : List Int} (h : Asc M) : M.Nodup := h.1.imp fun h => Int.ne_of_lt h
theorem Asc.err : ∀ {M : List Int} (p : Option Int), Asc M → (∀ q, p = some q → ∀ x ∈ M, q < x) → setErr M p = 0
  | [], _, _, _ => rfl
  | x :: M, p, h, hp => by
    obtain ⟨h1, h2⟩ := h
    obtain ⟨h1a, h1b⟩ := List.pairwise_cons.1 h1
    have hx := h2 x (List.mem_cons_self ..)
    have tl := Asc.err (some x) ⟨h1b, fun y hy => h2 y (List.mem_cons_of_mem _ hy)⟩ fun q e y hy => by cases e; exact h1a y hy
    simp only [setErr]
    rw [if_neg (by omega), if_neg (by omega)]
    cases p with
    | none => exact tl
    | some q =>
      have := hp q rfl x (List.mem_cons_self ..)
      simp only
      rw [if_neg (by omega)]; exact tl
theorem Asc.err0 {M : List Int} (h : Asc M) : setErr M none = 0 := h.err none fun q e => by cases e

/-- Loads differ by at most one. -/
def Even (M B : List Int) : Prop := ∀ x ∈ M, ∀ y ∈ M, B.count x ≤ B.count y + 1
theorem even_gap {M B : List Int} (hne : M ≠ []) : Even M B ↔ ¬ gap M B > 1 := by
  unfold gap ld
  constructor
  · intro h hg
    have := h _ (most_mem B hne) _ (least_mem B hne)
    omega
  · intro h x hx y hy
    have h1 := most_ge B hx
    have h2 := least_le B hy
    unfold ld at h1 h2
    omega

theorem fillG_mem {M : List Int} (hne : M ≠ []) : ∀ (post pre : List Int), (∀ x ∈ pre, x ∈ M) → (∀ x ∈ post, x = -1 ∨ x ∈ M) → ∀ x ∈ fillG M pre post, x ∈ M
  | [], pre, h, _ => h
  | y :: post, pre, h, hp => by
    simp only [fillG]
    refine fillG_mem hne post _ (fun x hx => ?_) fun x hx => hp x (List.mem_cons_of_mem _ hx)
    rcases List.mem_append.1 hx with hx | hx
    · exact h x hx
    · simp only [List.mem_singleton] at hx
      subst hx
      split
      · exact least_mem _ hne
      · rename_i hn
        rcases hp y (List.mem_cons_self ..) with h | h
        · exact (hn h).elim
        · exact h
/-- What is taken stays. -/
theorem fillG_keep {M : List Int} : ∀ (post pre : List Int) (i : Nat) (v : Int), (pre ++ post)[i]? = some v → (i < pre.length ∨ v ≠ -1) → (fillG M pre post)[i]? = some v
  | [], pre, i, v, h, _ => by simpa [fillG] using h
  | y :: post, pre, i, v, h, hv => by
    simp only [fillG]
    by_cases hi : i < pre.length
    · refine fillG_keep post _ i v ?_ (.inl (by simp; omega))
      rw [List.getElem?_append_left (by simp; omega), List.getElem?_append_left hi]
      rwa [List.getElem?_append_left hi] at h
    · have hv' : v ≠ -1 := by rcases hv with h | h; exact (hi h).elim; exact h
      by_cases he : i = pre.length
      · subst he
        have hy : y = v := by simpa using h
        refine fillG_keep post _ _ v ?_ (.inl (by simp))
        rw [if_neg (by rw [hy]; exact hv')]
        simp [hy]
      · refine fillG_keep post _ i v ?_ (.inr hv')
        rw [List.getElem?_append_right (by omega)] at h
        rw [List.getElem?_append_right (by simp; omega)]
        obtain ⟨j, hj⟩ : ∃ j, i - pre.length = j + 1 := ⟨i - pre.length - 1, by omega⟩
        rw [hj] at h
        simp only [List.getElem?_cons_succ] at h
        simp only [List.length_append, List.length_singleton]
        have : i - (pre.length + 1) = j := by omega
        rw [this]; exact h
theorem fillG_even {M : List Int} (hne : M ≠ []) (hneg : (-1 : Int) ∉ M) : ∀ (post pre : List Int), Even M (pre ++ post) → Even M (fillG M pre post)
  | [], pre, h => by simpa [fillG] using h
  | y :: post, pre, h => by
    simp only [fillG]
    refine fillG_even hne hneg post _ ?_
    by_cases hy : y = -1
    · rw [if_pos hy]
      have hl : ∀ x ∈ M, (pre ++ [least M (pre ++ y :: post)] ++ post).count x = (pre ++ y :: post).count x + if least M (pre ++ y :: post) = x then 1 else 0 := fun x hx => by
        have hxy : (y == x) = false := by simp; rw [hy]; rintro rfl; exact hneg hx
        simp only [List.count_append, List.count_cons, List.count_nil, hxy]
        by_cases e : least M (pre ++ y :: post) = x
        · simp [e]; omega
        · have : (least M (pre ++ y :: post) == x) = false := by simpa using e
          simp [this, e]
      intro a ha b hb
      rw [hl a ha, hl b hb]
      have h1 := h a ha b hb
      have h2 := least_le (pre ++ y :: post) hb
      unfold ld at h2
      by_cases ea : least M (pre ++ y :: post) = a
      · rw [ea] at h2
        rw [if_pos ea]
        split <;> omega
      · rw [if_neg ea]
        split <;> omega
    · rw [if_neg hy]
      simpa using h

theorem replLast_mem {a b x : Int} : ∀ {l : List Int}, x ∈ replLast a b l → x ∈ l ∨ x = b
  | [], h => nomatch h
  | y :: l, h => by
    simp only [replLast] at h
    split at h
    · rcases List.mem_cons.1 h with rfl | h
      · exact .inl (List.mem_cons_self ..)
      · rcases replLast_mem h with h | h
        · exact .inl (List.mem_cons_of_mem _ h)
        · exact .inr h
    · split at h
      · rcases List.mem_cons.1 h with rfl | h
        · exact .inr rfl
        · exact .inl (List.mem_cons_of_mem _ h)
      · exact .inl h
theorem replLast_get {a b : Int} : ∀ {l : List Int} {i : Nat} {v : Int}, (replLast a b l)[i]? = some v → l[i]? = some v ∨ (v = b ∧ l[i]? = some a)
  | [], i, v, h => by simp [replLast] at h
  | y :: l, i, v, h => by
    simp only [replLast] at h
    split at h
    · cases i with
      | zero => exact .inl h
      | succ i => simpa using replLast_get (by simpa using h)
    · split at h
      · rename_i e
        cases i with
        | zero => simp at h; exact .inr ⟨h.symm, by simp [e]⟩
        | succ i => exact .inl (by simpa using h)
      · exact .inl h
theorem rebal_mem {M : List Int} (hne : M ≠ []) : ∀ (f : Nat) (B : List Int), (∀ x ∈ B, x ∈ M) → ∀ x ∈ rebal M f B, x ∈ M
  | 0, B, h => h
  | f + 1, B, h => by
    simp only [rebal]
    split
    · refine rebal_mem hne f _ fun x hx => ?_
      rcases replLast_mem hx with h1 | h1
      · exact h x h1
      · rw [h1]; exact least_mem B hne
    · exact h

/-- How a wheel stands between the calls. -/
structure Inv (M B : List Int) : Prop where
  asc : Asc M
  none : M = [] → ∀ b ∈ B, b = -1
  all : M ≠ [] → (∀ b ∈ B, b ∈ M) ∧ Even M B
theorem inv_init (k : Nat) : Inv [] (List.replicate k (-1)) := ⟨⟨.nil, fun _ h => nomatch h⟩, fun _ b hb => (List.mem_replicate.1 hb).2, fun h => (h rfl).elim⟩
theorem clean_cases {X B : List Int} : ∀ b ∈ clean X B, b = -1 ∨ b ∈ X := fun b hb => by
  obtain ⟨y, _, rfl⟩ := List.mem_map.1 hb
  split
  · rename_i h; exact .inr h
  · exact .inl rfl
theorem Inv.set {X B : List Int} (hX : Asc X) (hl : B.length ≤ 256) : Inv X (setB X B) := by
  refine ⟨hX, fun he b hb => ?_, fun hne => ?_⟩
  · subst he
    simp only [setB, if_true] at hb
    rcases clean_cases b hb with h | h
    · exact h
    · cases h
  · rw [setB, if_neg hne]
    have h1 := fillG_mem hne (clean X B) [] (fun _ h => nomatch h) clean_cases
    refine ⟨rebal_mem hne _ _ h1, (even_gap hne).2 (rebal_gap hX.nodup hne _ _ (fuel_ok hX.nodup ?_))⟩
    rw [fillG_length, clean_length]; simpa using hl
theorem clean_id {X B : List Int} (h : ∀ b ∈ B, b ∈ X) : clean X B = B := by
  unfold clean
  conv => rhs; rw [← List.map_id B]
  exact List.map_congr_left fun b hb => by simp [h b hb]
theorem fillG_id {X : List Int} : ∀ (post pre : List Int), (∀ b ∈ post, b ≠ -1) → fillG X pre post = pre ++ post
  | [], pre, _ => by simp [fillG]
  | y :: post, pre, h => by
    rw [fillG, if_neg (h y (List.mem_cons_self ..)), fillG_id post _ fun b hb => h b (List.mem_cons_of_mem _ hb)]
    simp
/-- The same members again change nothing. -/
theorem Inv.again {M B : List Int} (h : Inv M B) (hne : M ≠ []) : setB M B = B := by
  obtain ⟨h1, h2⟩ := h.all hne
  rw [setB, if_neg hne, clean_id h1, fillG_id _ _ fun b hb => by have := (h.asc.2 b (h1 b hb)).1; omega, List.nil_append, rebal_stop ((even_gap hne).1 h2)]

/-- Removals. -/
theorem gone_law {M B L : List Int} (h : Inv M B) (hL : Asc L) (hsub : ∀ x ∈ L, x ∈ M) (hne : L ≠ []) {i : Nat} {v : Int} (hv : B[i]? = some v) (hm : v ∈ L) : (setB L B)[i]? = some v := by
  have hneM : M ≠ [] := by
    rintro rfl
    cases L with
    | nil => exact hne rfl
    | cons x L => exact nomatch hsub x (List.mem_cons_self ..)
  obtain ⟨h1, h2⟩ := h.all hneM
  have hneg : (-1 : Int) ∉ L := fun hh => by have := (hL.2 _ hh).1; omega
  have hc : ∀ x ∈ L, (clean L B).count x = B.count x := fun x hx => by
    unfold clean
    clear hv h1 h2 h
    induction B with
    | nil => rfl
    | cons b B ih =>
      simp only [List.map_cons, List.count_cons, ih]
      congr 1
      by_cases hb : b ∈ L
      · simp [hb]
      · have e1 : ((-1 : Int) == x) = false := by simp; rintro rfl; exact hneg hx
        have e2 : (b == x) = false := by simp; rintro rfl; exact hb hx
        simp [hb, e1, e2]
  have hev : Even L (clean L B) := fun x hx y hy => by rw [hc x hx, hc y hy]; exact h2 x (hsub x hx) y (hsub y hy)
  have hev2 := fillG_even hne hneg (clean L B) [] (by simpa using hev)
  rw [setB, if_neg hne, rebal_stop ((even_gap hne).1 hev2)]
  refine fillG_keep _ _ i v ?_ (.inr fun e => hneg (e ▸ hm))
  simp [clean, hv, hm]

/-- Additions. -/
structure Add (M : List Int) (A B C : List Int) : Prop where
  old : ∀ x ∈ M, ∀ y ∈ M, C.count x ≤ C.count y + 1
  new : ∀ x ∈ A, x ∉ M → ∀ y ∈ A, y ∉ M → C.count x ≤ C.count y + 1
  le : ∀ x ∈ A, x ∉ M → ∀ y ∈ M, C.count x ≤ C.count y
  chg : ∀ (i : Nat) v, C[i]? = some v → B[i]? = some v ∨ v ∉ M
theorem add_step {M A B C : List Int} (hsub : ∀ x ∈ M, x ∈ A) (hne : A ≠ []) (h : Add M A B C) (hg : gap A C > 1) : Add M A B (stepB A C) := by
  have hto := least_mem C hne
  have hfr := most_mem C hne
  have hg2 := gap_two hg
  have hneq := gap_ne hg
  have lo : ∀ x ∈ A, C.count (least A C) ≤ C.count x := fun x hx => by have := least_le C hx; unfold ld at this; omega
  have hi : ∀ x ∈ A, C.count x ≤ C.count (most A C) := fun x hx => by have := most_ge C hx; unfold ld at this; omega
  have htn : least A C ∉ M := fun hm => by
    by_cases hf : most A C ∈ M
    · have := h.old _ hf _ hm; omega
    · have := h.le _ hfr hf _ hm; omega
  have hfo : most A C ∈ M := Classical.byContradiction fun hf => by
    have := h.new _ hfr hf _ hto htn; omega
  have cnt : ∀ x, (stepB A C).count x + (if x = most A C then 1 else 0) = C.count x + (if x = least A C then 1 else 0) := step_count hg
  have cM : ∀ x ∈ M, (stepB A C).count x + (if x = most A C then 1 else 0) = C.count x := fun x hx => by
    have := cnt x
    rw [if_neg (show ¬ x = least A C from fun e => htn (e ▸ hx))] at this; exact this
  have cN : ∀ x, x ∉ M → (stepB A C).count x = C.count x + (if x = least A C then 1 else 0) := fun x hx => by
    have := cnt x
    rw [if_neg (show ¬ x = most A C from fun e => hx (e ▸ hfo))] at this; exact this
  refine ⟨fun x hx y hy => ?_, fun x hx hxm y hy hym => ?_, fun x hx hxm y hy => ?_, fun i v hv => ?_⟩
  · have h1 := cM x hx
    have h2 := cM y hy
    have h3 := h.old x hx y hy
    have h4 := h.old _ hfo x hx
    have h5 := h.old _ hfo y hy
    have h6 := hi x (hsub x hx)
    split at h1 <;> split at h2 <;> rename_i e1 e2
    · omega
    · omega
    · rw [e2] at h2 ⊢; omega
    · omega
  · rw [cN x hxm, cN y hym]
    have h3 := h.new x hx hxm y hy hym
    have h4 := h.new x hx hxm _ hto htn
    have h5 := lo y hy
    split
    · rename_i e; rw [e]; split <;> omega
    · split <;> omega
  · rw [cN x hxm]
    have h2 := cM y hy
    have h3 := h.new x hx hxm _ hto htn
    have h4 := h.old _ hfo y hy
    have h5 := h.le x hx hxm y hy
    by_cases e : x = least A C
    · rw [if_pos e, e]; split at h2
      · rename_i e2; rw [e2] at h2 ⊢; omega
      · omega
    · rw [if_neg e]; split at h2
      · rename_i e2; rw [e2] at h2 ⊢; omega
      · omega
  · rcases replLast_get hv with h1 | ⟨h1, _⟩
    · exact h.chg i v h1
    · exact .inr (by rw [h1]; exact htn)
theorem add_rebal {M A B : List Int} (hsub : ∀ x ∈ M, x ∈ A) (hne : A ≠ []) : ∀ (f : Nat) (C : List Int), Add M A B C → Add M A B (rebal A f C)
  | 0, C, h => h
  | f + 1, C, h => by
    simp only [rebal]
    split
    · rename_i hg; exact add_rebal hsub hne f _ (add_step hsub hne h hg)
    · exact h
theorem comes_law {M B A : List Int} (h : Inv M B) (hA : Asc A) (hsub : ∀ x ∈ M, x ∈ A) (hne : M ≠ []) : Add M A B (setB A B) := by
  have hneA : A ≠ [] := by
    rintro rfl
    cases M with
    | nil => exact hne rfl
    | cons x M => exact nomatch hsub x (List.mem_cons_self ..)
  obtain ⟨h1, h2⟩ := h.all hne
  have hall : ∀ b ∈ B, b ∈ A := fun b hb => hsub b (h1 b hb)
  rw [setB, if_neg hneA, clean_id hall, fillG_id _ _ fun b hb => by have := (hA.2 b (hall b hb)).1; omega, List.nil_append]
  have z : ∀ x, x ∉ M → B.count x = 0 := fun x hx => List.count_eq_zero.2 fun hb => hx (h1 x hb)
  exact add_rebal hsub hneA _ _ ⟨h2, fun x _ hx y _ _ => by rw [z x hx]; omega, fun x _ hx y _ => by rw [z x hx]; omega, fun i v hv => .inl hv⟩
end Go.Proofs.Sp

namespace Go.Proofs.Ytblijemhmpfihaa
open Go Go.Ab Sp
theorem mixed : Try.prog.follows .mixedOrders = true := by kernel_rfl
abbrev vi (x : Int) : Value := .int .i64 x
abbrev pp (i : Nat) : Value := .pointer (some ⟨i, 0, none⟩)

/-- The two lists of a wheel's state. -/
structure StV (m : Mem) (n s : Nat) (M B : List Int) (ma : Option Addr) (mc : Nat) (ba : Option Addr) (bc : Nat) : Prop where
  get : m.get s = some (.cells none tSpreadstate 2 [.slice ma M.length mc, .slice ba B.length bc])
  mem : Sl m n ma mc (M.map vi)
  bkt : Sl m n ba bc (B.map vi)
  lm : M.length ≤ 1000
  lb : B.length ≤ 1000
theorem StV.le {m m' : Mem} {n n' s : Nat} {M B : List Int} {ma ba : Option Addr} {mc bc : Nat} (h : StV m n s M B ma mc ba bc) (k : Le m n m' n') (hs : s < n) : StV m' n' s M B ma mc ba bc :=
  ⟨k.get hs h.get, h.mem.le k, h.bkt.le k, h.lm, h.lb⟩
theorem StV.up {m : Mem} {n n' s : Nat} {M B : List Int} {ma ba : Option Addr} {mc bc : Nat} (h : StV m n s M B ma mc ba bc) (k : n ≤ n') : StV m n' s M B ma mc ba bc :=
  ⟨h.get, h.mem.same k fun _ _ _ _ => rfl, h.bkt.same k fun _ _ _ _ => rfl, h.lm, h.lb⟩

theorem load_loop {m : Mem} {n0 : Nat} {B : List Int} {ba : Option Addr} {bc : Nat} {x : Int} {Q : Value → Mem → Nat → Prop} (hb : Sl m n0 ba bc (B.map vi)) (hl : B.length ≤ 1000) :
    ∀ l pre k n, B = pre ++ l → (k : Nat) = pre.count x → Q (vi (ld B x)) m n → W Try.prog { fn := fSpreadstateload, nt := 24, slots := [(1, vi x), (5, .int .i64 (k : Nat)), (11, .slice ba B.length bc), (12, .int .i64 B.length), (13, .int .i64 pre.length)], todo := pt Try.prog fSpreadstateload [1, 1, 0, 1, 0, 0] } m n Q := by
  intro l
  induction l with
  | nil =>
    intro pre k n h hk hq
    refine W_of mixed (cfg := xcfg) (fuel := 400) ?_
    rw [xSpreadstateloadk0]
    refine condDF (by simp [h]) ?_
    simp only [List.append_nil] at h
    subst h; subst hk
    exact hq
  | cons y l ih =>
    intro pre k n h hk hq
    refine W_of mixed (cfg := xcfg) (fuel := 400) ?_
    rw [xSpreadstateloadk0]
    have hlt : pre.length < B.length := by simp [h]
    have hy : B[pre.length] = y := by simp [h]
    have hw := wrapN (k := pre.length) (by omega)
    have hkl : k ≤ B.length := by rw [hk, h, List.length_append]; have := List.count_le_length (a := x) (l := pre); omega
    have hw2 := wrapN (k := k) (by omega)
    refine condDT (by omega) (hb.ldi hlt ?_)
    rw [hy, hw, hw2]
    have nxt := fun k' hk' => ih (pre ++ [y]) k' n (by simp [h]) hk' hq
    have hlen : (((pre ++ [y]).length : Nat) : Int) = ((pre.length + 1 : Nat) : Int) := by simp
    rw [hlen] at nxt
    refine condE (fun e => ?_) (fun e => ?_)
    · exact nxt (k + 1) (by simp [hk, e])
    · exact nxt k (by simp [hk, e])
theorem load_c {m : Mem} {n s : Nat} {M B : List Int} {ma ba : Option Addr} {mc bc : Nat} {x : Int} {Q : Value → Mem → Nat → Prop} (h : StV m n s M B ma mc ba bc) (hq : Q (vi (ld B x)) m n) : Wc Try.prog fSpreadstateload [pp s, vi x] m n Q := by
  refine Wc_of mixed (cfg := xcfg) (fuel := 400) ?_
  rw [xSpreadstateload]
  exact ⟨isC_of h.get, _, _, _, rd_of h.get rfl, load_loop h.bkt h.lb B [] 0 n rfl rfl hq⟩

theorem diff_wrap {B : List Int} (hl : B.length ≤ 1000) (a b : Int) : IntKind.i64.wrap (ld B a - ld B b) = ld B a - ld B b := by
  have := ld_nonneg B a; have := ld_nonneg B b; have := ld_le B a; have := ld_le B b
  exact wrap_id (by omega) (by omega)
/-- The comparing function of 'least' and of 'most'. -/
theorem least1_c {m : Mem} {n s t : Nat} {M B : List Int} {ma ba : Option Addr} {mc bc : Nat} {a b : Int} {Q : Value → Mem → Nat → Prop} (h : StV m n s M B ma mc ba bc) {T : Nat} (ht : m.get t = some (.cells none T 1 [pp s])) (hq : Q (vi (ld B a - ld B b)) m n) :
    Wc Try.prog fSpreadstateleast1 [vi a, vi b, pp t] m n Q := by
  refine Wc.scalar ?_ rfl hq
  refine Wc_of mixed (cfg := xcfg) (fuel := 400) ?_
  rw [xSpreadstateleast1]
  refine ⟨_, rd_of ht rfl, _, _, _, load_c (h.up (by omega)) ⟨rfl, rfl, rfl⟩, Later.mk ⟨_, rd_of ht rfl, _, _, _, load_c (h.up (by omega)) ⟨rfl, rfl, rfl⟩, Later.mk ?_⟩⟩
  exact ⟨⟨_, rd_of ht rfl, rfl⟩, Nat.le_refl _, Nat.le_refl _, by rw [diff_wrap h.lb], Le.refl.up (by omega)⟩
theorem most1_c {m : Mem} {n s t : Nat} {M B : List Int} {ma ba : Option Addr} {mc bc : Nat} {a b : Int} {Q : Value → Mem → Nat → Prop} (h : StV m n s M B ma mc ba bc) {T : Nat} (ht : m.get t = some (.cells none T 1 [pp s])) (hq : Q (vi (ld B a - ld B b)) m n) :
    Wc Try.prog fSpreadstatemost1 [vi a, vi b, pp t] m n Q := by
  refine Wc.scalar ?_ rfl hq
  refine Wc_of mixed (cfg := xcfg) (fuel := 400) ?_
  rw [xSpreadstatemost1]
  refine ⟨_, rd_of ht rfl, _, _, _, load_c (h.up (by omega)) ⟨rfl, rfl, rfl⟩, Later.mk ⟨_, rd_of ht rfl, _, _, _, load_c (h.up (by omega)) ⟨rfl, rfl, rfl⟩, Later.mk ?_⟩⟩
  exact ⟨⟨_, rd_of ht rfl, rfl⟩, Nat.le_refl _, Nat.le_refl _, by rw [diff_wrap h.lb], Le.refl.up (by omega)⟩

theorem minFunc_loop {m : Mem} {n : Nat} {B X : List Int} {xa : Option Addr} {xc g : Nat} {fst cap : List Value} {Q : Value → Mem → Nat → Prop} (hx : Sl m n xa xc (X.map vi)) (hl : X.length ≤ 1000)
    (hc : ∀ a b (Q : Value → Mem → Nat → Prop), Q (vi (ld B a - ld B b)) m n → Wc Try.prog g (fst ++ [vi a, vi b] ++ cap) m n Q) :
    ∀ l pre o, X = pre ++ l → Q (vi (minF B o l)) m n → W Try.prog { fn := fSlicesMinFuncLintint, nt := 33, slots := [(0, .slice xa X.length xc), (1, .func (.func g) ⟨fst⟩ ⟨cap⟩), (5, vi o), (6, .int .i64 pre.length)], todo := pt Try.prog fSlicesMinFuncLintint [1, 1, 1, 0, 1, 0, 0] } m n Q := by
  intro l
  induction l with
  | nil =>
    intro pre o h hq
    refine W_of mixed (cfg := xcfg) (fuel := 400) ?_
    rw [xSlicesMinFuncLintintk0]
    exact condDF (by simp [h]) hq
  | cons y l ih =>
    intro pre o h hq
    refine W_of mixed (cfg := xcfg) (fuel := 400) ?_
    rw [xSlicesMinFuncLintintk0]
    have hlt : pre.length < X.length := by simp [h]
    have hy : X[pre.length] = y := by simp [h]
    have hw := wrapN (k := pre.length) (by omega)
    refine condDT (by omega) (hx.ldi hlt ?_)
    rw [hy]
    refine hc _ _ _ ⟨_, rfl, Later.mk ?_⟩
    have nxt := fun o' hq' => ih (pre ++ [y]) o' (by simp [h]) hq'
    have hlen : (((pre ++ [y]).length : Nat) : Int) = ((pre.length + 1 : Nat) : Int) := by simp
    rw [hlen, ← hw] at nxt
    refine condD (fun e => ?_) (fun e => ?_)
    · refine hx.ldi hlt ?_
      rw [hy]
      exact nxt y (by rw [minF, if_pos (by omega)] at hq; exact hq)
    · exact nxt o (by rw [minF, if_neg (by omega)] at hq; exact hq)
theorem minFunc_c {m : Mem} {n : Nat} {B X : List Int} {xa : Option Addr} {xc g : Nat} {fst cap : List Value} {Q : Value → Mem → Nat → Prop} (hx : Sl m n xa xc (X.map vi)) (hl : X.length ≤ 1000) (hne : X ≠ [])
    (hc : ∀ a b (Q : Value → Mem → Nat → Prop), Q (vi (ld B a - ld B b)) m n → Wc Try.prog g (fst ++ [vi a, vi b] ++ cap) m n Q) (hq : Q (vi (least X B)) m n) :
    Wc Try.prog fSlicesMinFuncLintint [.slice xa X.length xc, .func (.func g) ⟨fst⟩ ⟨cap⟩] m n Q := by
  refine Wc_of mixed (cfg := xcfg) (fuel := 400) ?_
  rw [xSlicesMinFuncLintint]
  cases X with
  | nil => exact (hne rfl).elim
  | cons x X =>
    refine condDF (by simp; omega) ?_
    have := hx.ldi (i := 0) (by simp) (K := fun x3 => W Try.prog { fn := fSlicesMinFuncLintint, nt := 33, slots := [(0, .slice xa (x :: X).length xc), (1, .func (.func g) ⟨fst⟩ ⟨cap⟩), (5, vi x3), (6, .int .i64 1)], todo := pt Try.prog fSlicesMinFuncLintint [1, 1, 1, 0, 1, 0, 0] } m n Q)
      (minFunc_loop hx hl hc X [x] x rfl hq)
    simpa using this
theorem least_c {m : Mem} {n s : Nat} {M B : List Int} {ma ba : Option Addr} {mc bc : Nat} {Q : Value → Mem → Nat → Prop} (h : StV m n s M B ma mc ba bc) (hs : s < n) (hne : M ≠ []) (hq : Q (vi (least M B)) m n) : Wc Try.prog fSpreadstateleast [pp s] m n Q := by
  refine Wc.scalar ?_ rfl hq
  refine Wc_of mixed (cfg := xcfg) (fuel := 400) ?_
  rw [xSpreadstateleast]
  refine memLet.mk fun m0 hm => ?_
  have hle : Le m n m0 (n + 1) := by rw [hm]; exact Le.new
  have g0 : m0.get n = some (.cells none tPspreadstate 1 [pp s]) := by simp [hm, Tr.get_set]
  have h0 := h.le hle hs
  refine ⟨_, rd_of g0 rfl, isC_of h0.get, _, _, _, rd_of h0.get rfl, ?_⟩
  exact minFunc_c (B := B) h0.mem h0.lm hne (fun a b Q hq => least1_c h0 g0 hq) ⟨_, rfl, Later.mk ⟨rfl, hle⟩⟩

theorem maxFunc_loop {m : Mem} {n : Nat} {B X : List Int} {xa : Option Addr} {xc g : Nat} {fst cap : List Value} {Q : Value → Mem → Nat → Prop} (hx : Sl m n xa xc (X.map vi)) (hl : X.length ≤ 1000)
    (hc : ∀ a b (Q : Value → Mem → Nat → Prop), Q (vi (ld B a - ld B b)) m n → Wc Try.prog g (fst ++ [vi a, vi b] ++ cap) m n Q) :
    ∀ l pre o, X = pre ++ l → Q (vi (maxF B o l)) m n → W Try.prog { fn := fSlicesMaxFuncLintint, nt := 33, slots := [(0, .slice xa X.length xc), (1, .func (.func g) ⟨fst⟩ ⟨cap⟩), (5, vi o), (6, .int .i64 pre.length)], todo := pt Try.prog fSlicesMaxFuncLintint [1, 1, 1, 0, 1, 0, 0] } m n Q := by
  intro l
  induction l with
  | nil =>
    intro pre o h hq
    refine W_of mixed (cfg := xcfg) (fuel := 400) ?_
    rw [xSlicesMaxFuncLintintk0]
    exact condDF (by simp [h]) hq
  | cons y l ih =>
    intro pre o h hq
    refine W_of mixed (cfg := xcfg) (fuel := 400) ?_
    rw [xSlicesMaxFuncLintintk0]
    have hlt : pre.length < X.length := by simp [h]
    have hy : X[pre.length] = y := by simp [h]
    have hw := wrapN (k := pre.length) (by omega)
    refine condDT (by omega) (hx.ldi hlt ?_)
    rw [hy]
    refine hc _ _ _ ⟨_, rfl, Later.mk ?_⟩
    have nxt := fun o' hq' => ih (pre ++ [y]) o' (by simp [h]) hq'
    have hlen : (((pre ++ [y]).length : Nat) : Int) = ((pre.length + 1 : Nat) : Int) := by simp
    rw [hlen, ← hw] at nxt
    refine condD (fun e => ?_) (fun e => ?_)
    · refine hx.ldi hlt ?_
      rw [hy]
      exact nxt y (by rw [maxF, if_pos (by omega)] at hq; exact hq)
    · exact nxt o (by rw [maxF, if_neg (by omega)] at hq; exact hq)
theorem maxFunc_c {m : Mem} {n : Nat} {B X : List Int} {xa : Option Addr} {xc g : Nat} {fst cap : List Value} {Q : Value → Mem → Nat → Prop} {x : Int} (hx : Sl m n xa xc ((x :: X).map vi)) (hl : (x :: X).length ≤ 1000)
    (hc : ∀ a b (Q : Value → Mem → Nat → Prop), Q (vi (ld B a - ld B b)) m n → Wc Try.prog g (fst ++ [vi a, vi b] ++ cap) m n Q) (hq : Q (vi (maxF B x X)) m n) :
    Wc Try.prog fSlicesMaxFuncLintint [.slice xa (x :: X).length xc, .func (.func g) ⟨fst⟩ ⟨cap⟩] m n Q := by
  refine Wc_of mixed (cfg := xcfg) (fuel := 400) ?_
  rw [xSlicesMaxFuncLintint]
  refine condDF (by simp; omega) ?_
  have := hx.ldi (i := 0) (by simp) (K := fun x3 => W Try.prog { fn := fSlicesMaxFuncLintint, nt := 33, slots := [(0, .slice xa (x :: X).length xc), (1, .func (.func g) ⟨fst⟩ ⟨cap⟩), (5, vi x3), (6, .int .i64 1)], todo := pt Try.prog fSlicesMaxFuncLintint [1, 1, 1, 0, 1, 0, 0] } m n Q)
    (maxFunc_loop hx hl hc X [x] x rfl hq)
  simpa using this
end Go.Proofs.Ytblijemhmpfihaa

namespace Go.Proofs.Ytblijemhmpfihaa
open Go Go.Ab Sp

theorem intOk : elemOk Try.prog tLint tInt 1 = true := by kernel_rfl
/-- A copy. -/
theorem clone_c {m : Mem} {n : Nat} {a : Option Addr} {c : Nat} {X : List Int} (hx : Sl m n a c (X.map vi)) (hl : X.length ≤ 1000) :
    ∃ a' m' n', Ow m' n n' tInt 1 a' X.length X.length (X.map vi) ∧ Le m n m' n' ∧ (Fs m n → Fs m' n') ∧ Exact Try.prog fSlicesCloneLintint [.slice a X.length c] m n (.slice a' X.length X.length) m' n' := by
  cases ha : a with
  | none =>
    have hX : X = [] := by
      rcases hx with ⟨_, h⟩ | ⟨b, o, s, full, h, _⟩
      · simpa using h
      · rw [ha] at h; cases h
    subst hX
    refine ⟨none, m, n, Ow.nil, Le.refl, fun h => h, fun Q hq => ?_⟩
    refine Wc_of mixed (cfg := xcfg) (fuel := 400) ?_
    rw [xSlicesCloneLintint]
    exact hq
  | some p =>
    obtain ⟨b, o, s⟩ := p
    obtain ⟨r, hr, hre⟩ := hx.nilAt ha
    cases r with
    | true =>
      have hX : X = [] := by simpa using hre rfl
      subst hX
      refine ⟨none, m, n, Ow.nil, Le.refl, fun h => h, fun Q hq => ?_⟩
      refine Wc_of mixed (cfg := xcfg) (fuel := 400) ?_
      rw [xSlicesCloneLintint]
      exact ⟨true, hr, condT rfl hq⟩
    | false =>
      have h0 : Ow (m.set n (.cells none tInt 1 [])) n (n + 1) tInt 1 (some ⟨n, 0, none⟩) 0 0 [] := Ow.new (Nat.le_refl _) rfl
      have hle : Le m n (m.set n (.cells none tInt 1 [])) (n + 1) := Le.new
      obtain ⟨a', m', n', h1, h2, h3, h4, h5, h6⟩ := h0.append (t := tLint) (k := X.length) intOk ((hx.le hle).cells (by simp) (by omega)) (by simp [cellOk]) (by simp) (by omega) (by omega)
      rw [Nat.zero_add] at h1 h2
      rw [List.nil_append] at h2
      refine ⟨a', m', n', h2, ⟨by omega, fun i hi => ?_⟩, fun hf => h6 (Fs.set hf), fun Q hq => ?_⟩
      · rw [h5 i (by omega) (by intro b o s e; cases e; omega)]; exact hle.same i hi
      · refine Wc_of mixed (cfg := xcfg) (fuel := 400) ?_
        rw [xSlicesCloneLintint]
        subst ha
        exact ⟨false, hr, condF rfl (memLet.mk fun m0 hm => by subst hm; exact ⟨_, _, _, _, _, h1, hq⟩)⟩

theorem rev_loop {m0 : Mem} {n0 T : Nat} {a : Option Addr} {c : Nat} {X : List Int} {Q : Value → Mem → Nat → Prop} (hl : X.length ≤ 1000)
    (hq : ∀ m' n', Ow m' n0 n' T 1 a X.length c (X.reverse.map vi) → (∀ j, (∀ b o s, a = some ⟨b, o, s⟩ → j ≠ b) → m'.get j = m0.get j) → Q (.tuple ⟨[]⟩) m' n') :
    ∀ k pre mid post m n, mid.length ≤ k → X = pre ++ (mid ++ post) → pre.length = post.length → Ow m n0 n T 1 a X.length c ((post.reverse ++ (mid ++ pre.reverse)).map vi) → (∀ j, (∀ b o s, a = some ⟨b, o, s⟩ → j ≠ b) → m.get j = m0.get j) →
      W Try.prog { fn := fSlicesReverseLintint, nt := 28, slots := [(0, .slice a X.length c), (2, .int .i64 (pre.length : Nat)), (3, .int .i64 ((X.length : Int) - 1 - pre.length))], todo := pt Try.prog fSlicesReverseLintint [1, 0, 0] } m n Q := by
  intro k
  induction k with
  | zero =>
    intro pre mid post m n hk hX hp ho hs
    obtain rfl : mid = [] := List.length_eq_zero_iff.1 (by omega)
    refine W_of mixed (cfg := xcfg) (fuel := 400) ?_
    rw [xSlicesReverseLintintk0]
    refine condDF (by simp [hX]; omega) (hq m n ?_ hs)
    simpa [hX] using ho
  | succ k ih =>
    intro pre mid post m n hk hX hp ho hs
    refine W_of mixed (cfg := xcfg) (fuel := 400) ?_
    rw [xSlicesReverseLintintk0]
    match hmid : mid, hk with
    | [], _ =>
      refine condDF (by simp [hX]; omega) (hq m n ?_ hs)
      simpa [hX] using ho
    | [x], _ =>
      refine condDF (by simp [hX]; omega) (hq m n ?_ hs)
      simpa [hX] using ho
    | x :: y :: mid', hk =>
      obtain ⟨mm, z, hmz⟩ : ∃ mm z, y :: mid' = mm ++ [z] := ⟨_, _, (List.dropLast_concat_getLast (by simp)).symm⟩
      have hml : mm.length = mid'.length := by have := congrArg List.length hmz; simp at this; omega
      rw [hmz] at hX ho
      have hXl : X.length = pre.length + (mm.length + 2) + post.length := by rw [hX]; simp; omega
      have hj : (X.length : Int) - 1 - pre.length = ((pre.length + mm.length + 1 : Nat) : Int) := by omega
      rw [hj]
      refine condDT (by omega) ?_
      have hsl := ho.sl
      have hlen : ((post.reverse ++ (x :: (mm ++ [z]) ++ pre.reverse))).length = X.length := by simp [hXl]; omega
      have e1 : (post.reverse ++ (x :: (mm ++ [z]) ++ pre.reverse))[pre.length + mm.length + 1]? = some z := by
        rw [List.getElem?_append_right (by simp; omega)]
        have : pre.length + mm.length + 1 - post.reverse.length = mm.length + 1 := by simp; omega
        rw [this]; simp
      have e2 : (post.reverse ++ (x :: (mm ++ [z]) ++ pre.reverse))[pre.length]? = some x := by
        rw [List.getElem?_append_right (by simp; omega)]
        have : pre.length - post.reverse.length = 0 := by simp; omega
        rw [this]; simp
      have g1 := hsl.ldi (i := pre.length + mm.length + 1) (by omega) (K := fun v => v = z) (by have := List.getElem?_eq_some_iff.1 e1; exact this.2)
      have g2 := hsl.ldi (i := pre.length) (by omega) (K := fun v => v = x) (by have := List.getElem?_eq_some_iff.1 e2; exact this.2)
      rw [hlen] at g1 g2
      obtain ⟨b, o, s, ha⟩ : ∃ b o s, a = some ⟨b, o, s⟩ := by
        cases ha : a with
        | none => rw [ha] at g1; exact g1.elim
        | some p => exact ⟨p.block, p.off, p.spot, rfl⟩
      subst ha
      obtain ⟨w1, v1, w2, u1⟩ := g1
      obtain ⟨w3, v2, w4, u2⟩ := g2
      rw [u1] at w2
      rw [u2] at w4
      refine ⟨w1, _, w2, w3, _, w4, ?_⟩
      refine ho.st1 (i := pre.length) (by omega) rfl fun m1 ho1 hs1 => ?_
      refine ho1.st1 (i := pre.length + mm.length + 1) (by simp [hlen]; omega) rfl fun m2 ho2 hs2 => ?_
      refine ⟨Nat.le_refl _, Nat.le_refl _, ?_⟩
      have hw := wrapN (k := pre.length) (by omega)
      have hw2 : IntKind.i64.wrap (((pre.length + mm.length + 1 : Nat) : Int) - 1) = (X.length : Int) - 1 - ((pre ++ [x]).length : Nat) := by rw [wrap_id (by omega) (by omega)]; simp; omega
      rw [hw, hw2]
      have hlp : ((pre.length + 1 : Nat) : Int) = ((pre ++ [x]).length : Nat) := by simp
      rw [hlp]
      refine ih (pre ++ [x]) mm (z :: post) m2 (n + 16) (by simp at hk; omega) (by rw [hX]; simp) (by simp; omega) ?_ fun j hj => (hs2 j hj).trans ((hs1 j hj).trans (hs j hj))
      have hfin : ((post.reverse ++ (x :: (mm ++ [z]) ++ pre.reverse)).set pre.length z).set (pre.length + mm.length + 1) x = (z :: post).reverse ++ (mm ++ (pre ++ [x]).reverse) := by
        rw [List.set_append_right _ _ (by simp; omega)]
        have q1 : pre.length - post.reverse.length = 0 := by simp; omega
        rw [q1]
        simp only [List.cons_append, List.set_cons_zero]
        rw [List.set_append_right _ _ (by simp; omega)]
        have q2 : pre.length + mm.length + 1 - post.reverse.length = mm.length + 1 := by simp; omega
        rw [q2]
        simp only [List.set_cons_succ, List.append_assoc]
        rw [List.set_append_right _ _ (Nat.le_refl _)]
        simp
      rw [hfin] at ho2
      exact ho2.same (by omega) fun _ _ _ _ => rfl
theorem rev_c {m : Mem} {n n0 T : Nat} {a : Option Addr} {c : Nat} {X : List Int} {Q : Value → Mem → Nat → Prop} (hl : X.length ≤ 1000) (ho : Ow m n0 n T 1 a X.length c (X.map vi))
    (hq : ∀ m' n', Ow m' n0 n' T 1 a X.length c (X.reverse.map vi) → (∀ j, (∀ b o s, a = some ⟨b, o, s⟩ → j ≠ b) → m'.get j = m.get j) → Q (.tuple ⟨[]⟩) m' n') : Wc Try.prog fSlicesReverseLintint [.slice a X.length c] m n Q := by
  refine Wc_of mixed (cfg := xcfg) (fuel := 400) ?_
  rw [xSlicesReverseLintint]
  have hw : IntKind.i64.wrap ((X.length : Int) - 1) = (X.length : Int) - 1 - (([] : List Int).length : Nat) := by rw [wrap_id (by omega) (by omega)]; simp
  rw [hw]
  exact rev_loop hl hq X.length [] X [] m n (Nat.le_refl _) (by simp) rfl (by simpa using ho) fun _ _ => rfl
theorem most_c {m : Mem} {n s : Nat} {M B : List Int} {ma ba : Option Addr} {mc bc : Nat} {Q : Value → Mem → Nat → Prop} (h : StV m n s M B ma mc ba bc) (hs : s < n) (hne : M ≠ []) (hq : Q (vi (most M B)) m n) : Wc Try.prog fSpreadstatemost [pp s] m n Q := by
  refine Wc.scalar ?_ rfl hq
  refine Wc_of mixed (cfg := xcfg) (fuel := 400) ?_
  rw [xSpreadstatemost]
  refine memLet.mk fun m0 hm => ?_
  have hle : Le m n m0 (n + 1) := by rw [hm]; exact Le.new
  have g0 : m0.get n = some (.cells none tPspreadstate 1 [pp s]) := by simp [hm, Tr.get_set]
  have h0 := h.le hle hs
  refine ⟨_, rd_of g0 rfl, isC_of h0.get, _, _, _, rd_of h0.get rfl, ?_⟩
  obtain ⟨a', m1, n1, ow, le1, _, run⟩ := clone_c h0.mem h0.lm
  refine run _ ⟨_, _, _, rfl, Later.mk ?_⟩
  have l1 := le1.le
  refine Wc.after (rev_c h0.lm ow fun m2 n2 ow2 hs2 hf2 => ⟨rfl, Later.mk ?_⟩)
  have le2 : Le m0 (n + 1) m2 n2 := by
    refine ⟨?_, fun i hi => (hs2 i fun b o s e => by have := ow.bnd e; omega).trans (le1.same i hi)⟩
    rcases Nat.lt_or_ge n2 (n + 1) with hlt | hge
    · exfalso
      have : m2.get n = _ := (hs2 n fun b o s e => by have := ow.bnd e; omega).trans (le1.get (by omega) g0)
      rw [hf2 n (by omega)] at this; cases this
    · exact hge
  have h2 := h0.le le2 (by omega)
  have g2 := le2.get (by omega) g0
  cases hr : M.reverse with
  | nil => exact (hne (by simpa using hr)).elim
  | cons x X =>
    have hlen : M.length = (x :: X).length := by rw [← hr]; simp
    have sl2 := ow2.sl
    rw [hr, hlen] at sl2
    rw [hlen]
    refine maxFunc_c (B := B) sl2 (by have := h.lm; omega) (fun a b Q hq => most1_c h2 g2 hq) ⟨_, rfl, Later.mk ⟨?_, ?_⟩⟩
    · rw [most_rev B hne, hr]
    · exact hle.trans le2
end Go.Proofs.Ytblijemhmpfihaa

namespace Go.Proofs.Ytblijemhmpfihaa
open Go Go.Ab Sp

theorem index_loop {m : Mem} {n0 : Nat} {X : List Int} {xa : Option Addr} {xc : Nat} {v : Int} {Q : Value → Mem → Nat → Prop} (hx : Sl m n0 xa xc (X.map vi)) (hl : X.length ≤ 1000) :
    ∀ l pre n, X = pre ++ l → (∀ r, (decide (r ≥ 0) = l.contains v) → Q (vi r) m n) → W Try.prog { fn := fSlicesIndexLintint, nt := 19, slots := [(0, .slice xa X.length xc), (1, vi v), (7, .int .i64 X.length), (8, .int .i64 pre.length)], todo := pt Try.prog fSlicesIndexLintint [1, 0, 1, 0, 0] } m n Q := by
  intro l
  induction l with
  | nil =>
    intro pre n h hq
    refine W_of mixed (cfg := xcfg) (fuel := 400) ?_
    rw [xSlicesIndexLintintk0]
    exact condDF (by simp [h]) (hq _ (by simp))
  | cons y l ih =>
    intro pre n h hq
    refine W_of mixed (cfg := xcfg) (fuel := 400) ?_
    rw [xSlicesIndexLintintk0]
    have hlt : pre.length < X.length := by simp [h]
    have hy : X[pre.length] = y := by simp [h]
    have hw := wrapN (k := pre.length) (by omega)
    refine condDT (by omega) (hx.ldi hlt ?_)
    rw [hy]
    refine condE (fun e => hq _ (by simp [e])) fun e => ?_
    have := ih (pre ++ [y]) n (by simp [h]) fun r hr => hq r (by rw [hr]; simp [e])
    have hlen : (((pre ++ [y]).length : Nat) : Int) = ((pre.length + 1 : Nat) : Int) := by simp
    rw [hlen, ← hw] at this
    exact this
theorem contains_c {m : Mem} {n : Nat} {X : List Int} {xa : Option Addr} {xc : Nat} {v : Int} {Q : Value → Mem → Nat → Prop} (hx : Sl m n xa xc (X.map vi)) (hl : X.length ≤ 1000) (hq : Q (.bool (X.contains v)) m n) :
    Wc Try.prog fSlicesContainsLintint [.slice xa X.length xc, vi v] m n Q := by
  refine Wc_of mixed (cfg := xcfg) (fuel := 400) ?_
  rw [xSlicesContainsLintint]
  refine Wc_of mixed (cfg := xcfg) (fuel := 400) ?_
  rw [xSlicesIndexLintint]
  exact index_loop hx hl X [] n rfl fun r hr => ⟨_, rfl, Later.mk (by rw [hr]; exact hq)⟩

/-- A wheel: its block, its state's block, the block of its buckets. -/
structure Whl (m : Mem) (n w s b : Nat) (M B : List Int) : Prop where
  get : m.get w = some (.cells none tSpreadWheel 1 [pp s])
  lw : w < n
  ls : s < n
  pos : 0 < B.length
  big : B.length ≤ 256
  st : ∃ ma mc o sp, StV m n s M B ma mc (some ⟨b, o, sp⟩) B.length ∧ Ow m 0 n tInt 1 (some ⟨b, o, sp⟩) B.length B.length (B.map vi)
theorem Whl.cellb {m : Mem} {n w s b : Nat} {M B : List Int} (h : Whl m n w s b M B) : b < n ∧ ∃ full, m.get b = some (.cells none tInt 1 full) := by
  obtain ⟨ma, mc, o, sp, h1, h2, h3, h4⟩ := h.st
  rcases h4 with ⟨h, _⟩ | ⟨b', o', s', full, g1, g2, g3, g4, _⟩
  · cases h
  · cases g1; exact ⟨g3, full, g4⟩
theorem Whl.le {m m' : Mem} {n n' w s b : Nat} {M B : List Int} (h : Whl m n w s b M B) (k : Le m n m' n') : Whl m' n' w s b M B := by
  obtain ⟨ma, mc, o, sp, h1, h2⟩ := h.st
  have := k.le
  exact ⟨k.get h.lw h.get, by have := h.lw; omega, by have := h.ls; omega, h.pos, h.big, ma, mc, o, sp, h1.le k h.ls, h2.le k⟩
theorem Whl.apart {m : Mem} {n w s b : Nat} {M B : List Int} (h : Whl m n w s b M B) : w ≠ s ∧ w ≠ b ∧ s ≠ b := by
  obtain ⟨_, full, hb⟩ := h.cellb
  obtain ⟨ma, mc, o, sp, h1, h2⟩ := h.st
  have hw := h.get
  have hs := h1.get
  refine ⟨?_, ?_, ?_⟩
  · rintro rfl; rw [hw] at hs; simp at hs
  · rintro rfl; rw [hw] at hb; simp only [Option.some.injEq, AObj.cells.injEq] at hb; exact absurd hb.2.1 (by decide)
  · rintro rfl; rw [hs] at hb; simp at hb
theorem valid_c {m : Mem} {n w s b : Nat} {M B : List Int} {Q : Value → Mem → Nat → Prop} (h : Whl m n w s b M B) (hq : Q (.bool true) m n) : Wc Try.prog fSpreadWheelvalid [pp w] m n Q := by
  refine Wc_of mixed (cfg := xcfg) (fuel := 400) ?_
  rw [xSpreadWheelvalid]
  exact ⟨isC_of h.get, _, rd_of h.get rfl, hq⟩
def loadP (B : List Int) (x : Int) : Int := if x < 0 then 0 else ld B x
theorem Load_c {m : Mem} {n w s b : Nat} {M B : List Int} {x : Int} {Q : Value → Mem → Nat → Prop} (h : Whl m n w s b M B) (hq : Q (vi (loadP B x)) m n) : Wc Try.prog fSpreadWheelLoad [pp w, vi x] m n Q := by
  refine Wc_of mixed (cfg := xcfg) (fuel := 400) ?_
  rw [xSpreadWheelLoad]
  refine valid_c h ⟨_, rfl, Later.mk (condF rfl ?_)⟩
  unfold loadP at hq
  refine condD (fun e => by rw [if_pos e] at hq; exact hq) fun e => ?_
  rw [if_neg e] at hq
  obtain ⟨ma, mc, o, sp, h1, h2⟩ := h.st
  exact ⟨isC_of h.get, _, rd_of h.get rfl, load_c h1 ⟨_, rfl, Later.mk hq⟩⟩
theorem Buckets_c {m : Mem} {n w s b : Nat} {M B : List Int} (h : Whl m n w s b M B) :
    ∃ a' m' n', Ow m' n n' tInt 1 a' B.length B.length (B.map vi) ∧ Le m n m' n' ∧ (Fs m n → Fs m' n') ∧ Exact Try.prog fSpreadWheelBuckets [pp w] m n (.slice a' B.length B.length) m' n' := by
  obtain ⟨ma, mc, o, sp, h1, h2⟩ := h.st
  obtain ⟨a', m', n', g1, g2, g3, g4⟩ := clone_c h1.bkt h1.lb
  refine ⟨a', m', n', g1, g2, g3, fun Q hq => ?_⟩
  refine Wc_of mixed (cfg := xcfg) (fuel := 400) ?_
  rw [xSpreadWheelBuckets]
  exact valid_c h ⟨_, rfl, Later.mk (condF rfl ⟨isC_of h.get, _, rd_of h.get rfl, isC_of h1.get, _, _, _, rd_of h1.get rfl, g4 _ ⟨_, _, _, rfl, Later.mk hq⟩⟩)⟩
theorem Members_c {m : Mem} {n w s b : Nat} {M B : List Int} (h : Whl m n w s b M B) :
    ∃ a' m' n', Ow m' n n' tInt 1 a' M.length M.length (M.map vi) ∧ Le m n m' n' ∧ (Fs m n → Fs m' n') ∧ Exact Try.prog fSpreadWheelMembers [pp w] m n (.slice a' M.length M.length) m' n' := by
  obtain ⟨ma, mc, o, sp, h1, h2⟩ := h.st
  obtain ⟨a', m', n', g1, g2, g3, g4⟩ := clone_c h1.mem h1.lm
  refine ⟨a', m', n', g1, g2, g3, fun Q hq => ?_⟩
  refine Wc_of mixed (cfg := xcfg) (fuel := 400) ?_
  rw [xSpreadWheelMembers]
  exact valid_c h ⟨_, rfl, Later.mk (condF rfl ⟨isC_of h.get, _, rd_of h.get rfl, isC_of h1.get, _, _, _, rd_of h1.get rfl, g4 _ ⟨_, _, _, rfl, Later.mk hq⟩⟩)⟩
/-- Which member a hash picks. -/
def pickP (M B : List Int) (hash : Int) : Int × Bool := if M = [] then (0, false) else (B.getD (hash.tmod B.length).toNat 0, true)
theorem wrapU {k : Nat} (h : k ≤ 1000000) : IntKind.u64.wrap (k : Int) = k := by
  unfold IntKind.wrap
  simp only [IntKind.bits, IntKind.signed]
  have : (k : Int) % (2 ^ 64 : Int) = k := Int.emod_eq_of_lt (by omega) (by omega)
  rw [show (2 ^ 64 : Int) = 18446744073709551616 by rfl] at this
  simp [this]
theorem Pick_c {m : Mem} {n w s b : Nat} {M B : List Int} {hash : Int} {Q : Value → Mem → Nat → Prop} (h : Whl m n w s b M B) (h0 : 0 ≤ hash) (hq : Q (.tuple ⟨[vi (pickP M B hash).1, .bool (pickP M B hash).2]⟩) m n) : Wc Try.prog fSpreadWheelPick [pp w, .int .u64 hash] m n Q := by
  refine Wc.scalar ?_ rfl hq
  refine Wc_of mixed (cfg := xcfg) (fuel := 400) ?_
  rw [xSpreadWheelPick]
  obtain ⟨ma, mc, o, sp, h1, h2⟩ := h.st
  have hw := wrapU (k := B.length) (by have := h.big; omega)
  have hp := h.pos
  refine valid_c h ⟨_, rfl, Later.mk (condF rfl ⟨isC_of h.get, _, rd_of h.get rfl, isC_of h1.get, _, _, _, rd_of h1.get rfl, ?_⟩)⟩
  refine condE (fun e => ?_) fun e => ?_
  · have hM : M = [] := List.length_eq_zero_iff.1 (by omega)
    exact ⟨by simp [pickP, hM], Le.refl⟩
  · have hM : M ≠ [] := by rintro rfl; simp at e
    refine ⟨isC_of h.get, _, rd_of h.get rfl, isC_of h1.get, _, _, _, rd_of h1.get rfl, isC_of h.get, _, rd_of h.get rfl, isC_of h1.get, _, _, _, rd_of h1.get rfl, ?_⟩
    rw [hw]
    have t1 := Int.tmod_lt_of_pos hash (b := (B.length : Int)) (by omega)
    have t2 := Int.tmod_nonneg (B.length : Int) h0
    refine ⟨by omega, ?_⟩
    have hi : (hash.tmod B.length).toNat < B.length := by omega
    have := h1.bkt.ldi (i := (hash.tmod B.length).toNat) hi (K := fun x => Value.tuple ⟨[vi x, .bool true]⟩ = Value.tuple ⟨[vi (pickP M B hash).1, .bool (pickP M B hash).2]⟩ ∧ Le m n m (n + 22)) ⟨by simp [pickP, hM, List.getD, hi], Le.refl.up (by omega)⟩
    have e1 : (((hash.tmod B.length).toNat : Nat) : Int) = hash.tmod B.length := by omega
    rw [e1] at this
    exact this
end Go.Proofs.Ytblijemhmpfihaa

namespace Go.Proofs.Ytblijemhmpfihaa
open Go Go.Ab Sp

@[reducible] noncomputable def setSL (p fb tb : Nat) (v : Value) : Slots := [(2, pp p), (11, pp fb), (12, pp tb), (163, v)]
@[reducible] noncomputable def setPT : List Item := pt Try.prog fSpreadWheelSet [1, 1, 1, 1, 1, 1, 1, 1, 0, 0, 0, 1, 0, 1, 1, 0]
theorem setPT_ok : rfOk 179 setPT 2 = true := by kernel_rfl

/-- What a round of the loop over the buckets, from the last on, looks at. -/
structure Rnd (m : Mem) (n p w s b t fb tb : Nat) (M B : List Int) (fr to : Int) (ma : Option Addr) (mc o : Nat) (sp : Option Nat) : Prop where
  gp : m.get p = some (.cells none tPspreadWheel 1 [pp w])
  gw : m.get w = some (.cells none tSpreadWheel 1 [pp s])
  gs : m.get s = some (.cells none tSpreadstate 2 [.slice ma M.length mc, .slice (some ⟨b, o, sp⟩) B.length B.length])
  gt : m.get t = some (.cells none tLint 1 [.slice (some ⟨b, o, sp⟩) B.length B.length])
  gf : m.get fb = some (.cells none tInt 1 [vi fr])
  gto : m.get tb = some (.cells none tInt 1 [vi to])
  ow : Ow m 0 n tInt 1 (some ⟨b, o, sp⟩) B.length B.length (B.map vi)
theorem Rnd.keep {m m' : Mem} {n p w s b t fb tb : Nat} {M B : List Int} {fr to : Int} {ma : Option Addr} {mc o : Nat} {sp : Option Nat} (h : Rnd m n p w s b t fb tb M B fr to ma mc o sp) (k : KeepC m m') : Rnd m' n p w s b t fb tb M B fr to ma mc o sp :=
  ⟨(k _ (isC_of h.gp)).trans h.gp, (k _ (isC_of h.gw)).trans h.gw, (k _ (isC_of h.gs)).trans h.gs, (k _ (isC_of h.gt)).trans h.gt, (k _ (isC_of h.gf)).trans h.gf, (k _ (isC_of h.gto)).trans h.gto, h.ow.keep (Nat.le_refl _) k⟩
theorem notC {m : Mem} {Y fn nt ds : Nat} {sl : Slots} {st : LoopState} {p : Option Code} {todo : List Item} (h : m.get Y = some (loopO fn nt sl st p todo ds)) : isC m Y = false := by
  unfold isC; rw [h]; unfold loopO; split <;> simp_all <;> (split at * <;> simp_all)
theorem notD {m : Mem} {c : Nat} {d : Option (List Deferred)} (h : m.get c = some (.deferred d)) : isC m c = false := by
  unfold isC; rw [h]

theorem back_loop {p w s b t fb tb Y dn : Nat} {v163 : Value} {M A C : List Int} {fr to : Int} {ma : Option Addr} {mc o : Nat} {sp : Option Nat} (hC : fr ∉ C) (hlen : (A ++ fr :: C).length ≤ 256) :
    ∀ k, k ≤ C.length → ∀ (m : Mem) (n : Nat), Rnd m n p w s b t fb tb M (A ++ fr :: C) fr to ma mc o sp → m.get Y = some (loopO fSpreadWheelSet 179 (setSL p fb tb v163) .ready none setPT dn) →
    ∃ m', (m'.get Y = some (loopO fSpreadWheelSet 179 (setSL p fb tb v163) .done (some (.exit 9)) setPT dn) ∧ Ow m' 0 n tInt 1 (some ⟨b, o, sp⟩) (A ++ fr :: C).length (A ++ fr :: C).length ((A ++ to :: C).map vi) ∧ ∀ i, i ≠ Y → i ≠ b → m'.get i = m.get i) ∧
      ∀ Q : Value → Mem → Nat → Prop, Q (.tuple ⟨[]⟩) m' (n + 11) → W Try.prog { fn := fSlicesBackwardLintint1, nt := 19, slots := [(0, .func (.yield Y) ⟨[]⟩ ⟨[]⟩), (1, pp t), (3, .int .i64 ((A.length + k : Nat) : Int))], todo := pt Try.prog fSlicesBackwardLintint1 [1, 0, 0] } m n Q := by
  intro k
  induction k with
  | zero =>
    intro _ m n h hY
    have hb0 : b < n := (h.ow.bnd rfl).2
    -- the found one
    generalize hm1 : m.set Y (loopO fSpreadWheelSet 179 (setSL p fb tb v163) .busy none setPT dn) = m1
    have hk1 : KeepC m m1 := by rw [← hm1]; exact KeepC.refl.set (notC hY)
    have h1 := h.keep hk1
    have hY1 : m1.get Y = some (loopO fSpreadWheelSet 179 (setSL p fb tb v163) .busy none setPT dn) := by rw [← hm1]; simp [Tr.get_set]
    have hlt : A.length < (A ++ fr :: C).length := by simp
    obtain ⟨b', o', s', m2, e, _, _, l1, l2, l3, l4, l5⟩ := h1.ow.store (j := A.length) (vs := [vi to]) (by simp) (by simp [cellOk]) (by simp)
    cases e
    have hset : ((A ++ fr :: C).map vi).take A.length ++ ([vi to] ++ ((A ++ fr :: C).map vi).drop (A.length + 1)) = (A ++ to :: C).map vi := by
      simp [List.map_append, List.take_left', List.drop_append]
    simp only [List.length_singleton] at l4
    rw [hset] at l4
    have hYb : Y ≠ b := by
      rintro rfl
      have := notC hY1
      rcases h1.ow.2.2 with ⟨h, _⟩ | ⟨b', o', s', full, g1, g2, g3, g4, _⟩
      · cases h
      · cases g1; rw [isC_of g4] at this; cases this
    have hY2 := (l5 Y hYb).trans hY1
    refine ⟨m2.set Y (loopO fSpreadWheelSet 179 (setSL p fb tb v163) .done (some (.exit 9)) setPT dn), ⟨by simp [Tr.get_set], ?_, fun i h1 h2 => ?_⟩, fun Q hq => ?_⟩
    · exact l4.keep (Nat.le_refl _) (KeepC.refl.set (notC hY2))
    · rw [Tr.get_set, if_neg (fun e => h1 e.symm), l5 i h2, ← hm1, Tr.get_set, if_neg (fun e => h1 e.symm)]
    · refine W_of mixed (cfg := xcfg) (fuel := 400) ?_
      rw [xSlicesBackwardLintint1k0]
      refine condDT (by omega) ⟨_, _, _, rd_of h.gt rfl, ?_⟩
      refine h.ow.sl.ldi (i := A.length) (by simp) ?_
      have hg : (A ++ fr :: C)[A.length] = fr := by simp
      rw [hg]
      refine ⟨_, roundA_of hY setPT_ok, ?_⟩
      refine W_of mixed (cfg := xcfg) (fuel := 400) ?_
      rw [xSpreadWheelSetr5]
      refine ⟨_, hY, lpReady_of, ?_⟩
      rw [lpBusy_of]
      refine memLet.mk fun m1' e1 => ?_
      rw [hm1] at e1; subst e1
      refine ⟨_, rd_of h1.gf rfl, condET rfl ⟨_, rd_of h1.gp rfl, isC_of h1.gw, _, rd_of h1.gw rfl, isC_of h1.gs, _, _, _, rd_of h1.gs rfl, _, rd_of h1.gto rfl, ?_⟩⟩
      refine ⟨⟨by omega, by simp; omega, l1, l2⟩, m2, by simpa using l3, Nat.le_refl _, _, hY2, isLp_of, ?_⟩
      rw [lpSet_of]
      exact memLet.mk fun m3 e3 => by subst e3; exact ⟨_, rfl, Later.mk (condT rfl hq)⟩
  | succ k ih =>
    intro hk m n h hY
    generalize hm1 : m.set Y (loopO fSpreadWheelSet 179 (setSL p fb tb v163) .busy none setPT dn) = m1
    have hk1 : KeepC m m1 := by rw [← hm1]; exact KeepC.refl.set (notC hY)
    have h1 := h.keep hk1
    have hY1 : m1.get Y = some (loopO fSpreadWheelSet 179 (setSL p fb tb v163) .busy none setPT dn) := by rw [← hm1]; simp [Tr.get_set]
    generalize hm2 : m1.set Y (loopO fSpreadWheelSet 179 (setSL p fb tb v163) .ready none setPT dn) = m2
    have hk2 : KeepC m1 m2 := by rw [← hm2]; exact KeepC.refl.set (notC hY1)
    have hY2 : m2.get Y = some (loopO fSpreadWheelSet 179 (setSL p fb tb v163) .ready none setPT dn) := by rw [← hm2]; simp [Tr.get_set]
    obtain ⟨m', ⟨q1, q2, q3⟩, run⟩ := ih (by omega) m2 n (h1.keep hk2) hY2
    refine ⟨m', ⟨q1, q2, fun i h1 h2 => ?_⟩, fun Q hq => ?_⟩
    · rw [q3 i h1 h2, ← hm2, Tr.get_set, if_neg (fun e => h1 e.symm), ← hm1, Tr.get_set, if_neg (fun e => h1 e.symm)]
    · refine W_of mixed (cfg := xcfg) (fuel := 400) ?_
      rw [xSlicesBackwardLintint1k0]
      refine condDT (by omega) ⟨_, _, _, rd_of h.gt rfl, ?_⟩
      have hlt : A.length + (k + 1) < (A ++ fr :: C).length := by simp; omega
      refine h.ow.sl.ldi (i := A.length + (k + 1)) hlt ?_
      have hne : (A ++ fr :: C)[A.length + (k + 1)] ≠ fr := by
        rw [List.getElem_append_right (by omega)]
        have e : A.length + (k + 1) - A.length = k + 1 := by omega
        simp only [e, List.getElem_cons_succ]
        exact fun e => hC (e ▸ List.getElem_mem _)
      refine ⟨_, roundA_of hY setPT_ok, ?_⟩
      refine W_of mixed (cfg := xcfg) (fuel := 400) ?_
      rw [xSpreadWheelSetr5]
      refine ⟨_, hY, lpReady_of, ?_⟩
      rw [lpBusy_of]
      refine memLet.mk fun m1' e1 => ?_
      rw [hm1] at e1; subst e1
      refine ⟨_, rd_of h1.gf rfl, condEF hne ⟨_, hY1, isLp_of, ?_⟩⟩
      rw [lpSet_of]
      refine memLet.mk fun m3 e3 => ?_
      rw [hm2] at e3; subst e3
      refine ⟨_, rfl, Later.mk (condF rfl ?_)⟩
      have hw : IntKind.i64.wrap (((A.length + (k + 1) : Nat) : Int) - 1) = ((A.length + k : Nat) : Int) := by
        rw [wrap_id (by simp at hlen; omega) (by simp at hlen; omega)]; omega
      rw [hw]
      exact run Q hq
end Go.Proofs.Ytblijemhmpfihaa

namespace Go.Proofs.Ytblijemhmpfihaa
open Go Go.Ab Sp

theorem last_split {a : Int} : ∀ {l : List Int}, a ∈ l → ∃ A C, l = A ++ a :: C ∧ a ∉ C
  | [], h => nomatch h
  | x :: l, h => by
    by_cases hl : a ∈ l
    · obtain ⟨A, C, h1, h2⟩ := last_split hl
      exact ⟨x :: A, C, by rw [h1]; rfl, h2⟩
    · rcases List.mem_cons.1 h with rfl | h
      · exact ⟨[], l, rfl, hl⟩
      · exact (hl h).elim
theorem replLast_split {a b : Int} {C : List Int} (hC : a ∉ C) : ∀ A : List Int, replLast a b (A ++ a :: C) = A ++ b :: C
  | [] => by simp [replLast, hC]
  | x :: A => by
    have : a ∈ A ++ a :: C := by simp
    simp [replLast, replLast_split hC A]

/-- The block of a wheel's members. -/
def memBlk (m : Mem) (s x : Nat) : Prop := ∃ o s' l c r, m.get s = some (.cells none tSpreadstate 2 [.slice (some ⟨x, o, s'⟩) l c, r])
theorem memBlk.of {m m' : Mem} {s x : Nat} (h : memBlk m' s x) (e : m'.get s = m.get s) : memBlk m s x := by
  obtain ⟨o, s', l, c, r, h⟩ := h
  exact ⟨o, s', l, c, r, e ▸ h⟩
/-- How a wheel stands while its members are set. -/
structure SetC (m0 : Mem) (n0 : Nat) (m : Mem) (n p w s b : Nat) (M B : List Int) : Prop where
  gp : m.get p = some (.cells none tPspreadWheel 1 [pp w])
  lp : p < n
  whl : Whl m n w s b M B
  le : n0 ≤ n
  same : ∀ i, i < n0 → i ≠ s → i ≠ b → m.get i = m0.get i
  fs : Fs m n
  old : ∀ x, memBlk m s x → x < n0 → memBlk m0 s x
theorem SetC.up {m0 m : Mem} {n0 n n' p w s b : Nat} {M B : List Int} (h : SetC m0 n0 m n p w s b M B) (k : n ≤ n') : SetC m0 n0 m n' p w s b M B :=
  ⟨h.gp, Nat.lt_of_lt_of_le h.lp k, h.whl.le (Le.refl.up k), Nat.le_trans h.le k, h.same, h.fs.up k, h.old⟩
theorem Whl.keep {m m' : Mem} {n n' w s b : Nat} {M B : List Int} (h : Whl m n w s b M B) (hk : KeepC m m') (k : n ≤ n') : Whl m' n' w s b M B := by
  obtain ⟨ma, mc, o, sp, h1, h2⟩ := h.st
  exact ⟨(hk _ (isC_of h.get)).trans h.get, by have := h.lw; omega, by have := h.ls; omega, h.pos, h.big, ma, mc, o, sp, ⟨(hk _ (isC_of h1.get)).trans h1.get, h1.mem.keep k hk, h1.bkt.keep k hk, h1.lm, h1.lb⟩, h2.keep k hk⟩
/-- What Set leaves. -/
structure SetP (m0 : Mem) (n0 w s b : Nat) (M B : List Int) (m : Mem) (n : Nat) : Prop where
  whl : Whl m n w s b M B
  le : n0 ≤ n
  same : ∀ i, i < n0 → i ≠ s → i ≠ b → m.get i = m0.get i
  fs : Fs m n
  old : ∀ x, memBlk m s x → x < n0 → memBlk m0 s x
theorem SetC.post {m0 m : Mem} {n0 n p w s b : Nat} {M B : List Int} (h : SetC m0 n0 m n p w s b M B) : SetP m0 n0 w s b M B m n := ⟨h.whl, h.le, h.same, h.fs, h.old⟩
structure Cols (m : Mem) (n0 n : Nat) (bs : List Nat) : Prop where
  nd : bs.Nodup
  get : ∀ c ∈ bs, m.get c = some (.deferred (some []))
  lo : ∀ c ∈ bs, n0 ≤ c
  hi : ∀ c ∈ bs, c < n

/-- The wheel, with another state of its lists: after a write to the buckets. -/
theorem Whl.wrote {m m' : Mem} {n n' w s b : Nat} {M B B' : List Int} (h : Whl m n w s b M B) {ma : Option Addr} {mc o : Nat} {sp : Option Nat} (h1 : StV m n s M B ma mc (some ⟨b, o, sp⟩) B.length) (hb : ∀ o s, ma ≠ some ⟨b, o, s⟩) (k : n ≤ n') (hs : ∀ i, isC m i = true → i ≠ b → m'.get i = m.get i)
    (hl : B'.length = B.length) (ho : Ow m' 0 n' tInt 1 (some ⟨b, o, sp⟩) B.length B.length (B'.map vi)) : Whl m' n' w s b M B' := by
  have hap := h.apart
  refine ⟨(hs w (isC_of h.get) hap.2.1).trans h.get, by have := h.lw; omega, by have := h.ls; omega, by rw [hl]; exact h.pos, by rw [hl]; exact h.big, ma, mc, o, sp, ⟨?_, ?_, ?_, h1.lm, by rw [hl]; exact h1.lb⟩, by rw [hl]; exact ho⟩
  · rw [hl]; exact (hs s (isC_of h1.get) hap.2.2).trans h1.get
  · refine h1.mem.same k fun b' o' s' e => ?_
    rcases h1.mem with ⟨g, _⟩ | ⟨b2, o2, s2, full, g1, g2, g3, _⟩
    · rw [g] at e; cases e
    · rw [g1] at e; cases e
      exact hs _ (isC_cellsOf g3) fun e => by subst e; exact hb _ _ g1
  · rw [hl]; exact ho.sl

theorem reb {m0 : Mem} {n0 p w s b : Nat} {M : List Int} (hM : M.Nodup) (hne : M ≠ []) : ∀ (f : Nat) (m : Mem) (n : Nat) (bs : List Nat) (B : List Int) (ma : Option Addr) (mc o : Nat) (sp : Option Nat), sq B M < f → SetC m0 n0 m n p w s b M B →
    StV m n s M B ma mc (some ⟨b, o, sp⟩) B.length → (∀ o s, ma ≠ some ⟨b, o, s⟩) → Ow m 0 n tInt 1 (some ⟨b, o, sp⟩) B.length B.length (B.map vi) → Cols m n0 n bs →
    ∃ m' n', SetP m0 n0 w s b M (rebal M f B) m' n' ∧ ∀ Q : Value → Mem → Nat → Prop, Q (vi 0) m' n' → W Try.prog { fn := fSpreadWheelSet, nt := 179, slots := [(2, pp p)], todo := pt Try.prog fSpreadWheelSet [1, 1, 1, 1, 1, 1, 1, 1, 0, 0, 0], defers := bs.map collD } m n Q
  | 0, m, n, bs, B, ma, mc, o, sp, hf, _, _, _, _, _ => by omega
  | f + 1, m, n, bs, B, ma, mc, o, sp, hf, hc, h1, hmb, how, hcol => by
    have hw := hc.whl
    have hws : s < n := hw.ls
    have gw := hw.get
    have gs := h1.get
    have gp := hc.gp
    have dw := diff_wrap (B := B) h1.lb (most M B) (least M B)
    by_cases hg : gap M B > 1
    · -- one more round
      have hlen := hw.big
      obtain ⟨A, C, hB, hC⟩ := last_split (gap_mem hg)
      have hst : stepB M B = A ++ least M B :: C := by
        unfold stepB
        have := replLast_split (b := least M B) hC A
        rw [← hB] at this
        exact this
      generalize hm1 : (m.set (n + 22 + 10) (.cells none tInt 1 [.int .i64 0])).set (n + 22 + 11) (.cells none tInt 1 [.int .i64 0]) = m1
      generalize hm2 : m1.set (n + 22 + 10) (.cells none tInt 1 [vi (most M B)]) = m2
      generalize hm3 : m2.set (n + 22 + 11) (.cells none tInt 1 [vi (least M B)]) = m3
      generalize hm4 : m3.set (n + 22 + 14) (.cells none tLint 1 [.slice (some ⟨b, o, sp⟩) B.length B.length]) = m4
      generalize hm5 : (m4.set (n + 22 + 14 + 1) (.deferred (some []))).set (n + 22 + 14 + 1 + 1) (loopO fSpreadWheelSet 179 (setSL p (n + 22 + 10) (n + 22 + 11) (.func (.func fSlicesBackwardLintint1) ⟨[]⟩ ⟨[pp (n + 22 + 14)]⟩)) .ready none setPT (n + 22 + 14 + 1)) = m5
      have lo : ∀ i, i < n → m5.get i = m.get i := fun i hi => by
        rw [← hm5, Tr.get_set, if_neg (by omega), Tr.get_set, if_neg (by omega), ← hm4, Tr.get_set, if_neg (by omega), ← hm3, Tr.get_set, if_neg (by omega), ← hm2, Tr.get_set, if_neg (by omega), ← hm1, Tr.get_set, if_neg (by omega), Tr.get_set, if_neg (by omega)]
      have lo3 : ∀ i, i < n → m3.get i = m.get i := fun i hi => by
        rw [← hm3, Tr.get_set, if_neg (by omega), ← hm2, Tr.get_set, if_neg (by omega), ← hm1, Tr.get_set, if_neg (by omega), Tr.get_set, if_neg (by omega)]
      have hle5 : Le m n m5 (n + 22 + 14 + 1 + 2) := ⟨by omega, lo⟩
      have hR : Rnd m5 (n + 22 + 14 + 1 + 2) p w s b (n + 22 + 14) (n + 22 + 10) (n + 22 + 11) M B (most M B) (least M B) ma mc o sp := by
        refine ⟨hle5.get hc.lp gp, hle5.get hw.lw gw, hle5.get hws gs, ?_, ?_, ?_, how.le hle5⟩
        · rw [← hm5, Tr.get_set, if_neg (by omega), Tr.get_set, if_neg (by omega), ← hm4]; simp [Tr.get_set]
        · rw [← hm5, Tr.get_set, if_neg (by omega), Tr.get_set, if_neg (by omega), ← hm4, Tr.get_set, if_neg (by omega), ← hm3, Tr.get_set, if_neg (by omega), ← hm2]; simp [Tr.get_set]
        · rw [← hm5, Tr.get_set, if_neg (by omega), Tr.get_set, if_neg (by omega), ← hm4, Tr.get_set, if_neg (by omega), ← hm3]; simp [Tr.get_set]
      have hY5 : m5.get (n + 22 + 14 + 1 + 1) = some (loopO fSpreadWheelSet 179 (setSL p (n + 22 + 10) (n + 22 + 11) (.func (.func fSlicesBackwardLintint1) ⟨[]⟩ ⟨[pp (n + 22 + 14)]⟩)) .ready none setPT (n + 22 + 14 + 1)) := by rw [← hm5]; simp [Tr.get_set]
      have hd5 : m5.get (n + 22 + 14 + 1) = some (.deferred (some [])) := by rw [← hm5, Tr.get_set, if_neg (by omega)]; simp [Tr.get_set]
      have hR' : Rnd m5 (n + 22 + 14 + 1 + 2) p w s b (n + 22 + 14) (n + 22 + 10) (n + 22 + 11) M (A ++ most M B :: C) (most M B) (least M B) ma mc o sp :=
        ⟨hR.gp, hR.gw, by rw [← hB]; exact hR.gs, by rw [← hB]; exact hR.gt, hR.gf, hR.gto, by rw [← hB]; exact hR.ow⟩
      obtain ⟨m6, ⟨y6, ow6, k6⟩, run6⟩ := back_loop (to := least M B) hC (by rw [← hB]; exact hlen) C.length (Nat.le_refl _) m5 (n + 22 + 14 + 1 + 2) hR' hY5
      rw [← hB] at ow6
      generalize hm7 : m6.set (n + 22 + 14 + 1 + 1) (loopO fSpreadWheelSet 179 (setSL p (n + 22 + 10) (n + 22 + 11) (.func (.func fSlicesBackwardLintint1) ⟨[]⟩ ⟨[pp (n + 22 + 14)]⟩)) .exhausted (some (.exit 9)) setPT (n + 22 + 14 + 1)) = m7
      have k7 : ∀ i, i ≠ n + 22 + 14 + 1 + 1 → i ≠ b → m7.get i = m5.get i := fun i h1 h2 => by rw [← hm7, Tr.get_set, if_neg (fun e => h1 e.symm)]; exact k6 i h1 h2
      have ow7 : Ow m7 0 (n + 22 + 14 + 1 + 2 + 11) tInt 1 (some ⟨b, o, sp⟩) B.length B.length ((A ++ least M B :: C).map vi) := by
        have : KeepC m6 m7 := by rw [← hm7]; exact KeepC.refl.set (notC y6)
        exact ow6.keep (by omega) this
      have hbn : b < n := (how.bnd rfl).2
      have hBl : (stepB M B).length = B.length := replLast_length ..
      have hsame : ∀ i, isC m i = true → i ≠ b → m7.get i = m.get i := fun i hi hib => by
        have hin : i < n := by
          rcases Nat.lt_or_ge i n with h | h
          · exact h
          · have := hc.fs i h; unfold isC at hi; rw [this] at hi; cases hi
        rw [k7 i (by omega) hib, lo i hin]
      rw [← hst] at ow7
      have hw7 : Whl m7 (n + 22 + 14 + 1 + 2 + 11) w s b M (stepB M B) := hw.wrote h1 hmb (by omega) hsame hBl ow7
      have hc7 : SetC m0 n0 m7 (n + 22 + 14 + 1 + 2 + 11) p w s b M (stepB M B) := by
        refine ⟨?_, by have := hc.lp; omega, hw7, by have := hc.le; omega, fun i hi hs hb => ?_, fun i hi => ?_, fun x hx hlx => hc.old x (hx.of (hsame s (isC_of gs) hw.apart.2.2)) hlx⟩
        · have : p ≠ b := by rintro rfl; obtain ⟨_, full, hb⟩ := hw.cellb; rw [gp] at hb; simp only [Option.some.injEq, AObj.cells.injEq] at hb; exact absurd hb.2.1 (by decide)
          rw [k7 p (by have := hc.lp; omega) this, lo p hc.lp]; exact gp
        · rw [k7 i (by have := hc.le; omega) hb, lo i (by have := hc.le; omega)]; exact hc.same i hi hs hb
        · rw [k7 i (by omega) (by omega), ← hm5, Tr.get_set, if_neg (by omega), Tr.get_set, if_neg (by omega), ← hm4, Tr.get_set, if_neg (by omega), ← hm3, Tr.get_set, if_neg (by omega), ← hm2, Tr.get_set, if_neg (by omega), ← hm1, Tr.get_set, if_neg (by omega), Tr.get_set, if_neg (by omega)]
          exact hc.fs i (by omega)
      have hst7 : StV m7 (n + 22 + 14 + 1 + 2 + 11) s M (stepB M B) ma mc (some ⟨b, o, sp⟩) (stepB M B).length := by
        refine ⟨?_, ?_, by rw [hBl]; exact ow7.sl, h1.lm, by rw [hBl]; exact h1.lb⟩
        · rw [hBl]; exact (hsame s (isC_of gs) hw.apart.2.2).trans gs
        · refine h1.mem.same (by omega) fun b' o' s' e => ?_
          rcases h1.mem with ⟨g, _⟩ | ⟨b2, o2, s2, full, g1, g2, g3, _⟩
          · rw [g] at e; cases e
          · rw [g1] at e; cases e
            exact hsame _ (isC_cellsOf g3) fun e => by subst e; exact hmb _ _ g1
      have hcol7 : Cols m7 n0 (n + 22 + 14 + 1 + 2 + 11) ((n + 22 + 14 + 1) :: bs) := by
        have hcb : ∀ c ∈ bs, c ≠ b := fun c hcm => by
          rintro rfl
          obtain ⟨_, full, hb⟩ := hw.cellb
          rw [hcol.get _ hcm] at hb; cases hb
        refine ⟨List.nodup_cons.2 ⟨fun hm => by have := hcol.hi _ hm; omega, hcol.nd⟩, fun c hcm => ?_, fun c hcm => ?_, fun c hcm => ?_⟩
        · rcases List.mem_cons.1 hcm with rfl | hcm
          · rw [k7 _ (by omega) (by omega)]; exact hd5
          · rw [k7 c (by have := hcol.hi c hcm; omega) (hcb c hcm), lo c (hcol.hi c hcm)]; exact hcol.get c hcm
        · rcases List.mem_cons.1 hcm with rfl | hcm
          · have := hc.le; omega
          · exact hcol.lo c hcm
        · rcases List.mem_cons.1 hcm with rfl | hcm
          · omega
          · have := hcol.hi c hcm; omega
      obtain ⟨m', n', hp, run⟩ := reb hM hne f m7 (n + 22 + 14 + 1 + 2 + 11) ((n + 22 + 14 + 1) :: bs) (stepB M B) ma mc o sp (by have := step_lt hM hne hg; omega) hc7 hst7 hmb (by rw [hBl]; exact ow7) hcol7
      refine ⟨m', n', by rw [rebal_go hg]; exact hp, fun Q hq => ?_⟩
      refine W_of mixed (cfg := xcfg) (fuel := 400) ?_
      rw [xSpreadWheelSetk4]
      refine ⟨_, rd_of gp rfl, isC_of gw, _, rd_of gw rfl, _, rd_of gp rfl, isC_of gw, _, rd_of gw rfl, _, _, _, most_c (h1.up (by omega)) (by omega) hne ⟨rfl, rfl, rfl⟩, Later.mk ⟨_, _, _, load_c (h1.up (by omega)) ⟨rfl, rfl, rfl⟩, Later.mk ?_⟩⟩
      refine ⟨_, rd_of gp rfl, isC_of gw, _, rd_of gw rfl, _, rd_of gp rfl, isC_of gw, _, rd_of gw rfl, _, _, _, least_c (h1.up (by omega)) (by omega) hne ⟨rfl, rfl, rfl⟩, Later.mk ⟨_, _, _, load_c (h1.up (by omega)) ⟨rfl, rfl, rfl⟩, Later.mk ?_⟩⟩
      refine ⟨⟨_, rd_of gw rfl, rfl⟩, ⟨_, rd_of gw rfl, rfl⟩, ⟨isC_of gw, rfl⟩, ⟨isC_of gw, rfl⟩, ⟨_, rd_of gp rfl, rfl⟩, ⟨_, rd_of gp rfl, rfl⟩, ⟨_, rd_of gw rfl, rfl⟩, ⟨_, rd_of gw rfl, rfl⟩, ⟨_, rd_of gw rfl, rfl⟩, ⟨isC_of gw, rfl⟩, ⟨isC_of gw, rfl⟩, ⟨isC_of gw, rfl⟩,
        ⟨_, rd_of gp rfl, rfl⟩, ⟨_, rd_of gp rfl, rfl⟩, ⟨_, rd_of gp rfl, rfl⟩, ⟨_, rd_of gw rfl, rfl⟩, ⟨isC_of gw, rfl⟩, ⟨_, rd_of gp rfl, rfl⟩, Nat.le_refl _, Nat.le_refl _, Nat.le_refl _, Nat.le_refl _, ?_⟩
      rw [dw]
      refine condDT hg ?_
      refine ⟨_, rd_of gp rfl, isC_of gw, _, rd_of gw rfl, _, _, _, most_c (h1.up (by omega)) (by omega) hne ⟨rfl, rfl, rfl⟩, Later.mk ?_⟩
      refine ⟨_, rd_of gp rfl, isC_of gw, _, rd_of gw rfl, _, _, _, least_c (h1.up (by omega)) (by omega) hne ⟨rfl, rfl, rfl⟩, Later.mk ?_⟩
      refine memLet.mk fun m1' e1 => ?_
      rw [hm1] at e1; have e1 := e1.symm; subst e1
      have q1 : m1.get (n + 22 + 10) = some (.cells none tInt 1 [.int .i64 0]) := by rw [← hm1, Tr.get_set, if_neg (by omega)]; simp [Tr.get_set]
      have q2 : m2.get (n + 22 + 11) = some (.cells none tInt 1 [.int .i64 0]) := by rw [← hm2, Tr.get_set, if_neg (by omega), ← hm1]; simp [Tr.get_set]
      refine ⟨m2, by rw [← hm2]; exact store_of q1 (by simp) (by simp [cellOk]), m3, by rw [← hm3]; exact store_of q2 (by simp) (by simp [cellOk]), ⟨_, rd_of gw rfl, rfl⟩, ⟨isC_of gw, rfl⟩, ⟨_, rd_of gp rfl, rfl⟩, Nat.le_refl _, Nat.le_refl _, Nat.le_refl _, Nat.le_refl _, hc.fs _ (by omega), hc.fs _ (by omega), hc.fs _ (by omega), hc.fs _ (by omega), ?_⟩
      have gp3 := (lo3 p hc.lp).trans gp
      have gw3 := (lo3 w hw.lw).trans gw
      have gs3 := (lo3 s hws).trans gs
      refine ⟨_, rd_of gp3 rfl, isC_of gw3, _, rd_of gw3 rfl, isC_of gs3, _, _, _, rd_of gs3 rfl, ?_⟩
      refine Wc_of mixed (cfg := xcfg) (fuel := 400) ?_
      rw [xSlicesBackwardLintint]
      refine memLet.mk fun m4' e4 => ?_
      rw [hm4] at e4; subst e4
      refine ⟨_, _, _, rfl, Later.mk (memLet.mk fun m5' e5 => ?_)⟩
      have e5' : m5' = m5 := e5.trans hm5
      subst e5'
      refine Wc_of mixed (cfg := xcfg) (fuel := 400) (?_ : Xc Try.prog xcfg 400 fSlicesBackwardLintint1 [.func (.yield (n + 22 + 14 + 1 + 1)) ⟨[]⟩ ⟨[]⟩, pp (n + 22 + 14)] _ _ _)
      rw [xSlicesBackwardLintint1]
      refine ⟨_, _, _, rd_of hR.gt rfl, ?_⟩
      have hBn : B.length = A.length + C.length + 1 := by have := congrArg List.length hB; simp at this; omega
      have hwl : IntKind.i64.wrap ((B.length : Int) - 1) = ((A.length + C.length : Nat) : Int) := by
        rw [wrap_id (by omega) (by omega)]; omega
      rw [hwl]
      refine run6 _ ⟨_, _, y6, rfl, Later.mk (memLet.mk fun m7' e7 => ?_)⟩
      have e7' : m7' = m7 := e7.trans hm7
      subst e7'
      refine .inl ⟨rfl, run Q hq⟩
    · -- the end
      generalize hm' : clrAll bs m = m'
      have hkc : KeepC m m' := fun i hi => by
        rw [← hm']
        exact clrAll_get bs m i fun hm => by rw [notD (hcol.get i hm)] at hi; cases hi
      refine ⟨m', n + 22, ⟨by rw [rebal_stop hg]; exact hw.keep hkc (by omega), by have := hc.le; omega, fun i hi hs hb => ?_, fun i hi => ?_, fun x hx hlx => hc.old x (hx.of (hkc s (isC_of gs))) hlx⟩, fun Q hq => ?_⟩
      · rw [← hm', clrAll_get bs m i fun hm => by have := hcol.lo i hm; omega]; exact hc.same i hi hs hb
      · rw [← hm', clrAll_get bs m i fun hm => by have := hcol.hi i hm; omega]; exact hc.fs i (by omega)
      · refine W_of mixed (cfg := xcfg) (fuel := 400) ?_
        rw [xSpreadWheelSetk4]
        refine ⟨_, rd_of gp rfl, isC_of gw, _, rd_of gw rfl, _, rd_of gp rfl, isC_of gw, _, rd_of gw rfl, _, _, _, most_c (h1.up (by omega)) (by omega) hne ⟨rfl, rfl, rfl⟩, Later.mk ⟨_, _, _, load_c (h1.up (by omega)) ⟨rfl, rfl, rfl⟩, Later.mk ?_⟩⟩
        refine ⟨_, rd_of gp rfl, isC_of gw, _, rd_of gw rfl, _, rd_of gp rfl, isC_of gw, _, rd_of gw rfl, _, _, _, least_c (h1.up (by omega)) (by omega) hne ⟨rfl, rfl, rfl⟩, Later.mk ⟨_, _, _, load_c (h1.up (by omega)) ⟨rfl, rfl, rfl⟩, Later.mk ?_⟩⟩
        refine ⟨⟨_, rd_of gw rfl, rfl⟩, ⟨_, rd_of gw rfl, rfl⟩, ⟨isC_of gw, rfl⟩, ⟨isC_of gw, rfl⟩, ⟨_, rd_of gp rfl, rfl⟩, ⟨_, rd_of gp rfl, rfl⟩, ⟨_, rd_of gw rfl, rfl⟩, ⟨_, rd_of gw rfl, rfl⟩, ⟨_, rd_of gw rfl, rfl⟩, ⟨isC_of gw, rfl⟩, ⟨isC_of gw, rfl⟩, ⟨isC_of gw, rfl⟩,
          ⟨_, rd_of gp rfl, rfl⟩, ⟨_, rd_of gp rfl, rfl⟩, ⟨_, rd_of gp rfl, rfl⟩, ⟨_, rd_of gw rfl, rfl⟩, ⟨isC_of gw, rfl⟩, ⟨_, rd_of gp rfl, rfl⟩, Nat.le_refl _, Nat.le_refl _, Nat.le_refl _, Nat.le_refl _, ?_⟩
        rw [dw]
        refine condDF hg ⟨bs, ⟨rfl, hcol.nd, hcol.get⟩, memLet.mk fun m'' e => ?_⟩
        rw [hm'] at e; subst e
        exact hq
end Go.Proofs.Ytblijemhmpfihaa

namespace Go.Proofs.Ytblijemhmpfihaa
open Go Go.Ab Sp

/-- A wheel in the middle of Set, its lists laid open. -/
structure SetO (m0 : Mem) (n0 : Nat) (m : Mem) (n p w s b : Nat) (M B : List Int) (ma : Option Addr) (mc o : Nat) (sp : Option Nat) : Prop where
  c : SetC m0 n0 m n p w s b M B
  st : StV m n s M B ma mc (some ⟨b, o, sp⟩) B.length
  mb : ∀ o s, ma ≠ some ⟨b, o, s⟩
  ow : Ow m 0 n tInt 1 (some ⟨b, o, sp⟩) B.length B.length (B.map vi)
theorem SetO.up {m0 m : Mem} {n0 n n' p w s b : Nat} {M B : List Int} {ma : Option Addr} {mc o : Nat} {sp : Option Nat} (h : SetO m0 n0 m n p w s b M B ma mc o sp) (k : n ≤ n') : SetO m0 n0 m n' p w s b M B ma mc o sp :=
  ⟨h.c.up k, h.st.up k, h.mb, h.ow.same k fun _ _ _ _ => rfl⟩
/-- A write to a bucket. -/
theorem SetO.put {m0 m m' : Mem} {n0 n p w s b : Nat} {M B : List Int} {ma : Option Addr} {mc o : Nat} {sp : Option Nat} {i : Nat} {x : Int} (h : SetO m0 n0 m n p w s b M B ma mc o sp) (ho : Ow m' 0 n tInt 1 (some ⟨b, o, sp⟩) B.length B.length ((B.set i x).map vi))
    (hs : ∀ j, j ≠ b → m'.get j = m.get j) : SetO m0 n0 m' n p w s b M (B.set i x) ma mc o sp := by
  have hl : (B.set i x).length = B.length := by simp
  have hw := h.c.whl
  have hbn : b < n := (h.ow.bnd rfl).2
  have hpb : p ≠ b := by rintro rfl; obtain ⟨_, full, hb⟩ := hw.cellb; have := h.c.gp; rw [hb] at this; simp only [Option.some.injEq, AObj.cells.injEq] at this; exact absurd this.2.1 (by decide)
  refine ⟨⟨(hs p hpb).trans h.c.gp, h.c.lp, hw.wrote h.st h.mb (Nat.le_refl _) (fun j _ hj => hs j hj) hl ho, h.c.le, fun j hj h1 h2 => (hs j h2).trans (h.c.same j hj h1 h2), fun j hj => (hs j (by omega)).trans (h.c.fs j hj), fun x hx hlx => h.c.old x (hx.of (hs s hw.apart.2.2)) hlx⟩, ⟨?_, ?_, ?_, h.st.lm, ?_⟩, h.mb, ?_⟩
  · rw [hl]; exact (hs s hw.apart.2.2).trans h.st.get
  · refine h.st.mem.same (Nat.le_refl _) fun b' o' s' e => hs b' fun e' => by subst e'; exact h.mb _ _ e
  · rw [hl]; exact ho.sl
  · rw [hl]; exact h.st.lb
  · rw [hl]; exact ho

theorem fill_loop {m0 : Mem} {n0 p w s b : Nat} {M : List Int} {ma : Option Addr} {mc o : Nat} {sp : Option Nat} (hM : M.Nodup) (hne : M ≠ []) {len : Nat} :
    ∀ (post pre : List Int) (m : Mem) (n : Nat), (pre ++ post).length = len → SetO m0 n0 m n p w s b M (pre ++ post) ma mc o sp →
    ∃ m' n', SetP m0 n0 w s b M (rebal M fuelB (fillG M pre post)) m' n' ∧ ∀ Q : Value → Mem → Nat → Prop, Q (vi 0) m' n' →
      W Try.prog { fn := fSpreadWheelSet, nt := 179, slots := [(2, pp p), (100, .slice (some ⟨b, o, sp⟩) len len), (101, .int .i64 len), (102, .int .i64 (pre.length : Nat))], todo := pt Try.prog fSpreadWheelSet [1, 1, 1, 1, 1, 1, 1, 0, 1, 0, 0], defers := [] } m n Q
  | [], pre, m, n, hl, h => by
    simp only [List.append_nil] at hl h
    obtain ⟨m', n', hp, run⟩ := reb hM hne fuelB m n [] pre ma mc o sp (fuel_ok hM h.c.whl.big) h.c h.st h.mb h.ow ⟨List.nodup_nil, (fun _ h => nomatch h), (fun _ h => nomatch h), (fun _ h => nomatch h)⟩
    refine ⟨m', n', hp, fun Q hq => ?_⟩
    refine W_of mixed (cfg := xcfg) (fuel := 400) ?_
    rw [xSpreadWheelSetk3]
    exact condDF (by omega) (run Q hq)
  | x :: post, pre, m, n, hl, h => by
    have hlt : pre.length < (pre ++ x :: post).length := by simp
    have hx : (pre ++ x :: post)[pre.length] = x := by simp
    have hbig := h.c.whl.big
    have hw := wrapN (k := pre.length) (by omega)
    have gw := h.c.whl.get
    have gs := h.st.get
    have gp := h.c.gp
    by_cases hx1 : x = -1
    · -- a free one
      obtain ⟨b', o', s', m1, e, _, _, l1, l2, l3, l4, l5⟩ := (h.up (n' := n + 15) (by omega)).ow.store (j := pre.length) (vs := [vi (least M (pre ++ x :: post))]) (by simp) (by simp [cellOk]) (by simp)
      cases e
      simp only [List.length_singleton] at l4
      rw [map_take_drop_set vi (pre ++ x :: post) pre.length (least M (pre ++ x :: post)) hlt] at l4
      have h1 := (h.up (n' := n + 15) (by omega)).put l4 l5
      have hset : (pre ++ x :: post).set pre.length (least M (pre ++ x :: post)) = (pre ++ [least M (pre ++ x :: post)]) ++ post := by simp
      rw [hset] at h1
      obtain ⟨m', n', hp, run⟩ := fill_loop hM hne (len := len) post (pre ++ [least M (pre ++ x :: post)]) m1 (n + 15) (by rw [← hl]; simp) h1
      refine ⟨m', n', by rw [fillG, if_pos hx1]; exact hp, fun Q hq => ?_⟩
      refine W_of mixed (cfg := xcfg) (fuel := 400) ?_
      rw [xSpreadWheelSetk3]
      refine condDT (by omega) ?_
      have hb := h.ow.sl.ldi hlt (K := fun v => v = x) hx
      rw [hl] at hb
      obtain ⟨q1, _, q2, q3⟩ := hb
      refine ⟨q1, _, q2, condET (by rw [q3]; exact hx1) ⟨_, rd_of gp rfl, isC_of gw, _, rd_of gw rfl, isC_of gs, _, _, _, rd_of gs rfl, _, rd_of gp rfl, isC_of gw, _, rd_of gw rfl, _, _, _, least_c (h.st.up (by omega)) (by have := h.c.whl.ls; omega) hne ⟨rfl, rfl, rfl⟩, Later.mk ?_⟩⟩
      refine ⟨⟨by omega, by omega, l1, l2⟩, m1, by simpa using l3, ⟨_, _, _, rd_of gs rfl, rfl⟩, ⟨isC_of gs, rfl⟩, ⟨_, rd_of gw rfl, rfl⟩, ⟨isC_of gw, rfl⟩, ⟨_, rd_of gp rfl, rfl⟩, Nat.le_refl _, Nat.le_refl _, ?_⟩
      rw [hw]
      have hlen : (((pre ++ [least M (pre ++ x :: post)]).length : Nat) : Int) = ((pre.length + 1 : Nat) : Int) := by simp
      rw [hlen] at run
      exact run Q hq
    · have h1 : SetO m0 n0 m n p w s b M ((pre ++ [x]) ++ post) ma mc o sp := by simpa using h
      obtain ⟨m', n', hp, run⟩ := fill_loop hM hne (len := len) post (pre ++ [x]) m n (by rw [← hl]; simp) h1
      refine ⟨m', n', by rw [fillG, if_neg hx1]; exact hp, fun Q hq => ?_⟩
      refine W_of mixed (cfg := xcfg) (fuel := 400) ?_
      rw [xSpreadWheelSetk3]
      refine condDT (by omega) ?_
      have hb := h.ow.sl.ldi hlt (K := fun v => v = x) hx
      rw [hl] at hb
      obtain ⟨q1, _, q2, q3⟩ := hb
      refine ⟨q1, _, q2, condEF (by rw [q3]; exact hx1) ?_⟩
      rw [hw]
      have hlen : (((pre ++ [x]).length : Nat) : Int) = ((pre.length + 1 : Nat) : Int) := by simp
      rw [hlen] at run
      exact run Q hq
theorem clean_loop {m0 : Mem} {n0 p w s b : Nat} {X : List Int} {xa : Option Addr} {xc : Nat} {ma : Option Addr} {mc o : Nat} {sp : Option Nat} (hX : X.Nodup) (hlX : X.length ≤ 1000) (hap : ∀ o s, xa ≠ some ⟨b, o, s⟩) {len : Nat} :
    ∀ (post pre : List Int) (m : Mem) (n : Nat), (pre ++ post).length = len → SetO m0 n0 m n p w s b X (clean X pre ++ post) ma mc o sp → Sl m n xa xc (X.map vi) →
    ∃ m' n', SetP m0 n0 w s b X (setB X (pre ++ post)) m' n' ∧ ∀ Q : Value → Mem → Nat → Prop, Q (vi 0) m' n' →
      W Try.prog { fn := fSpreadWheelSet, nt := 179, slots := [(1, .slice xa X.length xc), (2, pp p), (70, .slice (some ⟨b, o, sp⟩) len len), (71, .int .i64 len), (72, .int .i64 (pre.length : Nat))], todo := pt Try.prog fSpreadWheelSet [1, 1, 1, 1, 1, 0, 1, 0, 0], defers := [] } m n Q
  | [], pre, m, n, hl, h, hx => by
    simp only [List.append_nil] at hl h
    have hcl : (clean X pre).length = len := by rw [clean_length, hl]
    by_cases he : X = []
    · refine ⟨m, n, ?_, fun Q hq => ?_⟩
      · rw [List.append_nil, setB, if_pos he]; exact h.c.post
      · refine W_of mixed (cfg := xcfg) (fuel := 400) ?_
        rw [xSpreadWheelSetk2]
        refine condDF (by omega) (condET (by simp [he]) ⟨[], ⟨rfl, List.Pairwise.nil, (fun _ h => nomatch h)⟩, memLet.mk fun m' e => by subst e; exact hq⟩)
    · obtain ⟨m', n', hp, run⟩ := fill_loop hX he (len := len) (clean X pre) [] m n (by simpa using hcl) (by simpa using h)
      refine ⟨m', n', ?_, fun Q hq => ?_⟩
      · rw [List.append_nil, setB, if_neg he]; exact hp
      · refine W_of mixed (cfg := xcfg) (fuel := 400) ?_
        rw [xSpreadWheelSetk2]
        have gw := h.c.whl.get
        have gs := h.st.get
        have gp := h.c.gp
        have hxl : (X.length : Int) ≠ 0 := by have := List.length_pos_iff.2 he; omega
        rw [hcl] at gs
        exact condDF (by omega) (condEF hxl ⟨_, rd_of gp rfl, isC_of gw, _, rd_of gw rfl, isC_of gs, _, _, _, rd_of gs rfl, run Q hq⟩)
  | x :: post, pre, m, n, hl, h, hx => by
    have hcl : (clean X pre).length = pre.length := clean_length ..
    have hll : (clean X pre ++ x :: post).length = len := by rw [← hl]; simp [hcl]
    have hlt : pre.length < (clean X pre ++ x :: post).length := by simp [hcl]
    have hg : (clean X pre ++ x :: post)[pre.length] = x := by rw [List.getElem_append_right (by omega)]; simp [hcl]
    have hbig := h.c.whl.big
    have hw := wrapN (k := pre.length) (by omega)
    have gw := h.c.whl.get
    have gs := h.st.get
    have gp := h.c.gp
    have hb := h.ow.sl.ldi hlt (K := fun v => v = x) hg
    rw [hll] at hb
    obtain ⟨q1, _, q2, q3⟩ := hb
    have hlen : (((pre ++ [x]).length : Nat) : Int) = ((pre.length + 1 : Nat) : Int) := by simp
    cases hc : X.contains x with
    | true =>
      have hmem : x ∈ X := by simpa using hc
      have h1 : SetO m0 n0 m n p w s b X (clean X (pre ++ [x]) ++ post) ma mc o sp := by simpa [clean, hmem] using h
      obtain ⟨m', n', hp, run⟩ := clean_loop hX hlX hap (len := len) post (pre ++ [x]) m n (by rw [← hl]; simp) h1 hx
      refine ⟨m', n', by simpa using hp, fun Q hq => ?_⟩
      refine W_of mixed (cfg := xcfg) (fuel := 400) ?_
      rw [xSpreadWheelSetk2]
      refine condDT (by omega) ⟨q1, _, q2, contains_c hx hlX ⟨_, rfl, Later.mk ?_⟩⟩
      rw [q3, hc, hw]
      rw [hlen] at run
      exact condF rfl (run Q hq)
    | false =>
      have hmem : x ∉ X := by simpa using hc
      obtain ⟨b', o', s', m1, e, _, _, l1, l2, l3, l4, l5⟩ := h.ow.store (j := pre.length) (vs := [vi (-1)]) (by simp [hcl]) (by simp [cellOk]) (by simp)
      cases e
      simp only [List.length_singleton] at l4
      rw [map_take_drop_set vi _ pre.length (-1) hlt] at l4
      have h1 := h.put l4 l5
      have hset : (clean X pre ++ x :: post).set pre.length (-1) = clean X (pre ++ [x]) ++ post := by
        rw [List.set_append_right _ _ (by omega), hcl]
        simp [clean, hmem]
      rw [hset] at h1
      obtain ⟨m', n', hp, run⟩ := clean_loop hX hlX hap (len := len) post (pre ++ [x]) m1 n (by rw [← hl]; simp) h1 (hx.same (Nat.le_refl _) fun b' o' s' e => l5 b' fun e' => by subst e'; exact hap _ _ e)
      refine ⟨m', n', by simpa using hp, fun Q hq => ?_⟩
      refine W_of mixed (cfg := xcfg) (fuel := 400) ?_
      rw [xSpreadWheelSetk2]
      refine condDT (by omega) ⟨q1, _, q2, contains_c hx hlX ⟨_, rfl, Later.mk ?_⟩⟩
      rw [q3, hc]
      refine condT rfl ⟨_, rd_of gp rfl, isC_of gw, _, rd_of gw rfl, isC_of gs, _, _, _, rd_of gs rfl, ⟨by omega, by omega, l1, l2⟩, m1, by simpa using l3, ?_⟩
      rw [hw]
      rw [hlen] at run
      exact run Q hq
end Go.Proofs.Ytblijemhmpfihaa

namespace Go.Proofs.Ytblijemhmpfihaa
open Go Go.Ab Sp

theorem val_loop {m0 m : Mem} {n0 n p w s b : Nat} {M B X : List Int} {xa : Option Addr} {xc : Nat} (h : SetC m0 n0 m n p w s b M B) (hx : Sl m n xa xc (X.map vi)) (hlX : X.length ≤ 1000) (hap : ∀ o s', xa ≠ some ⟨b, o, s'⟩) (haps : ∀ o s', xa ≠ some ⟨s, o, s'⟩) (hs0 : s < n0) :
    ∀ l pre, X = pre ++ l → setErr X none = setErr l pre.getLast? → ∃ m' n', SetP m0 n0 w s b (setF X M B).2.1 (setF X M B).2.2 m' n' ∧ ∀ Q : Value → Mem → Nat → Prop, Q (vi (setF X M B).1) m' n' →
      W Try.prog { fn := fSpreadWheelSet, nt := 179, slots := [(1, .slice xa X.length xc), (2, pp p), (18, .slice xa X.length xc), (19, .int .i64 X.length), (20, .int .i64 (pre.length : Nat))], todo := pt Try.prog fSpreadWheelSet [1, 1, 0, 1, 0, 0], defers := [] } m n Q
  | [], pre, hX, he => by
    have he0 : setErr X none = 0 := he
    obtain ⟨ma, mc, o, sp, h1, h2⟩ := h.whl.st
    have gw := h.whl.get
    have gs := h1.get
    have gp := h.gp
    have hpl : pre.length = X.length := by simp [hX]
    by_cases hlen : (X.length : Int) > B.length
    · have hF : setF X M B = (7, (M, B)) := by unfold Sp.setF; rw [if_neg (by simp [he0]), if_pos hlen]
      rw [hF]
      refine ⟨m, n, h.post, fun Q hq => ?_⟩
      refine W_of mixed (cfg := xcfg) (fuel := 400) ?_
      rw [xSpreadWheelSetk1]
      exact condDF (by omega) ⟨_, rd_of gp rfl, isC_of gw, _, rd_of gw rfl, isC_of gs, _, _, _, rd_of gs rfl, condDT hlen ⟨[], ⟨rfl, List.Pairwise.nil, (fun _ h => nomatch h)⟩, memLet.mk fun m' e => by subst e; exact hq⟩⟩
    · have hF : setF X M B = (0, (X, setB X B)) := by unfold Sp.setF; rw [if_neg (by simp [he0]), if_neg hlen]
      rw [hF]
      obtain ⟨hnd, _, _⟩ := setErr_nodup X none he0
      obtain ⟨pa, m1, n1, ow1, le1, fs1, run1⟩ := clone_c (hx.same (n' := n + 9) (by omega) fun _ _ _ _ => rfl) hlX
      have l1 := le1.le
      have hws := h.whl.ls
      have hwl := h.whl.lw
      have hlp := h.lp
      have gs1 := le1.get (by omega) gs
      have gp1 := le1.get (by omega) gp
      have gw1 := le1.get (by omega) gw
      generalize hm2 : m1.set s (.cells none tSpreadstate 2 [.slice pa X.length X.length, .slice (some ⟨b, o, sp⟩) B.length B.length]) = m2
      have hap3 := h.whl.apart
      obtain ⟨hbn, full, hbg⟩ := h.whl.cellb
      have k2 : ∀ i, i ≠ s → m2.get i = m1.get i := fun i hi => by rw [← hm2, Tr.get_set, if_neg (fun e => hi e.symm)]
      have gs2 : m2.get s = some (.cells none tSpreadstate 2 [.slice pa X.length X.length, .slice (some ⟨b, o, sp⟩) B.length B.length]) := by rw [← hm2]; simp [Tr.get_set]
      have gp2 := (k2 p (by rintro rfl; rw [gs] at gp; simp at gp)).trans gp1
      have gw2 := (k2 w hap3.1).trans gw1
      have hneX : pa ≠ none → ∀ b' o' s', pa = some ⟨b', o', s'⟩ → n + 9 ≤ b' := fun _ b' o' s' e => (ow1.bnd e).1
      have slX : Sl m2 n1 pa X.length (X.map vi) := ow1.sl.same (Nat.le_refl _) fun b' o' s' e => k2 b' (by have := ow1.bnd e; omega)
      have owB : Ow m2 0 n1 tInt 1 (some ⟨b, o, sp⟩) B.length B.length (B.map vi) := h2.same (by omega) fun b' o' s' e => by cases e; exact (k2 b (fun e => hap3.2.2 e.symm)).trans (le1.same b (by omega))
      have hst2 : StV m2 n1 s X B pa X.length (some ⟨b, o, sp⟩) B.length := ⟨gs2, slX, owB.sl, hlX, h1.lb⟩
      have hwh2 : Whl m2 n1 w s b X B := ⟨gw2, by omega, by omega, h.whl.pos, h.whl.big, pa, _, o, sp, hst2, owB⟩
      have hO : SetO m0 n0 m2 n1 p w s b X B pa X.length o sp := by
        refine ⟨⟨gp2, by omega, hwh2, by have := h.le; omega, fun i hi hs hb => ?_, fun i hi => ?_, fun x hx hlx => ?_⟩, hst2, fun o' s' e => by have := ow1.bnd e; omega, owB⟩
        · rw [k2 i hs, le1.same i (by have := h.le; omega)]; exact h.same i hi hs hb
        · rw [k2 i (by omega)]; exact fs1 (h.fs.up (by omega)) i hi
        · obtain ⟨o', s', l', c', r', e⟩ := hx
          rw [gs2] at e
          simp only [Option.some.injEq, AObj.cells.injEq, List.cons.injEq, Value.slice.injEq, true_and, and_true] at e
          have := ow1.bnd e.1.1
          have := h.le
          omega
      have slx2 : Sl m2 n1 xa xc (X.map vi) := hx.same (by omega) fun b' o' s' e => (k2 b' (by rintro rfl; exact haps _ _ e)).trans (le1.same b' (by have := hx.lt e; omega))
      obtain ⟨m', n', hp, run⟩ := clean_loop hnd hlX hap (len := B.length) B [] m2 n1 rfl (by simpa [clean] using hO) slx2
      refine ⟨m', n', by simpa using hp, fun Q hq => ?_⟩
      refine W_of mixed (cfg := xcfg) (fuel := 400) ?_
      rw [xSpreadWheelSetk1]
      refine condDF (by omega) ⟨_, rd_of gp rfl, isC_of gw, _, rd_of gw rfl, isC_of gs, _, _, _, rd_of gs rfl, condDF hlen ⟨_, rd_of gp rfl, isC_of gw, _, rd_of gw rfl, _, _, _, _, _, run1 _ ⟨rfl, rfl, rfl⟩, Later.mk ?_⟩⟩
      refine ⟨isC_of gs1, m2, by rw [← hm2]; exact store_of gs1 (by simp) (by simp [cellOk]), ⟨_, rd_of gw1 rfl, rfl⟩, ⟨isC_of gw1, rfl⟩, ⟨_, rd_of gp1 rfl, rfl⟩, by omega, by omega, _, rd_of gp2 rfl, isC_of gw2, _, rd_of gw2 rfl, isC_of gs2, _, _, _, rd_of gs2 rfl, ?_⟩
      exact run Q hq
  | x :: l, pre, hX, he => by
    have hlt : pre.length < X.length := by simp [hX]
    have hg : X[pre.length] = x := by simp [hX]
    have hw := wrapN (k := pre.length) (by omega)
    have fail : ∀ e, setErr X none = e → e ≠ 0 → SetP m0 n0 w s b (setF X M B).2.1 (setF X M B).2.2 m n ∧ (setF X M B).1 = e := fun e h1 h2 => by
      have hF : setF X M B = (e, (M, B)) := by unfold Sp.setF; rw [if_pos (by rw [h1]; exact h2), h1]
      rw [hF]; exact ⟨h.post, rfl⟩
    have ret : ∀ (e : Int) (Q : Value → Mem → Nat → Prop), Q (.int .i64 e) m n → ∃ l4 : List Nat, (([] : List Deferred) = l4.map collD ∧ l4.Pairwise (· ≠ ·) ∧ ∀ k, List.Mem k l4 → m.get k = some (.deferred (some []))) ∧ memLet (clrAll l4 m) fun m6 => Q (.int .i64 e) m6 n := fun e Q hq =>
      ⟨[], ⟨rfl, List.Pairwise.nil, (fun _ h => nomatch h)⟩, memLet.mk fun m' e => by subst e; exact hq⟩
    simp only [setErr] at he
    by_cases h1 : x < 0
    · rw [if_pos h1] at he
      obtain ⟨q1, q2⟩ := fail 2 he (by decide)
      refine ⟨m, n, q1, fun Q hq => ?_⟩
      rw [q2] at hq
      refine W_of mixed (cfg := xcfg) (fuel := 400) ?_
      rw [xSpreadWheelSetk1]
      refine condDT (by omega) (hx.ldi hlt ?_)
      rw [hg]
      exact condDT h1 (ret 2 Q hq)
    by_cases h2 : x ≥ 128
    · rw [if_neg h1, if_pos h2] at he
      obtain ⟨q1, q2⟩ := fail 2 he (by decide)
      refine ⟨m, n, q1, fun Q hq => ?_⟩
      rw [q2] at hq
      refine W_of mixed (cfg := xcfg) (fuel := 400) ?_
      rw [xSpreadWheelSetk1]
      refine condDT (by omega) (hx.ldi hlt ?_)
      rw [hg]
      exact condDF h1 (condDT h2 (ret 2 Q hq))
    rw [if_neg h1, if_neg h2] at he
    have hlen : (((pre ++ [x]).length : Nat) : Int) = ((pre.length + 1 : Nat) : Int) := by simp
    have hlast : (pre ++ [x]).getLast? = some x := by simp
    by_cases h3 : (pre.length : Int) > 0
    · have hp := wrapP (k := pre.length) (by omega) (by omega)
      have hlst : pre.getLast? = some X[pre.length - 1] := by
        rw [List.getLast?_eq_getElem?]
        have : pre.length - 1 < pre.length := by omega
        simp [hX, List.getElem_append, this]
      rw [hlst] at he
      simp only at he
      by_cases h4 : x ≤ X[pre.length - 1]
      · rw [if_pos h4] at he
        obtain ⟨q1, q2⟩ := fail 10 he (by decide)
        refine ⟨m, n, q1, fun Q hq => ?_⟩
        rw [q2] at hq
        refine W_of mixed (cfg := xcfg) (fuel := 400) ?_
        rw [xSpreadWheelSetk1]
        refine condDT (by omega) (hx.ldi hlt ?_)
        rw [hg]
        refine condDF h1 (condDF h2 (condDT h3 ?_))
        rw [hp]
        exact hx.ldi (i := pre.length - 1) (by omega) (condDT h4 (ret 10 Q hq))
      · rw [if_neg h4] at he
        obtain ⟨m', n', q, run⟩ := val_loop h hx hlX hap haps hs0 l (pre ++ [x]) (by simp [hX]) (by rw [he, hlast])
        refine ⟨m', n', q, fun Q hq => ?_⟩
        refine W_of mixed (cfg := xcfg) (fuel := 400) ?_
        rw [xSpreadWheelSetk1]
        refine condDT (by omega) (hx.ldi hlt ?_)
        rw [hg]
        refine condDF h1 (condDF h2 (condDT h3 ?_))
        rw [hp]
        refine hx.ldi (i := pre.length - 1) (by omega) (condDF h4 ?_)
        rw [hw]
        rw [hlen] at run
        exact run Q hq
    · have hpre : pre = [] := List.length_eq_zero_iff.1 (by omega)
      have hlst : pre.getLast? = none := by rw [hpre]; rfl
      rw [hlst] at he
      obtain ⟨m', n', q, run⟩ := val_loop h hx hlX hap haps hs0 l (pre ++ [x]) (by simp [hX]) (by rw [he, hlast])
      refine ⟨m', n', q, fun Q hq => ?_⟩
      refine W_of mixed (cfg := xcfg) (fuel := 400) ?_
      rw [xSpreadWheelSetk1]
      refine condDT (by omega) (hx.ldi hlt ?_)
      rw [hg]
      refine condDF h1 (condDF h2 (condDF h3 ?_))
      rw [hw]
      rw [hlen] at run
      exact run Q hq
theorem Set_c {m : Mem} {n w s b : Nat} {M B X : List Int} {xa : Option Addr} {xc : Nat} (h : Whl m n w s b M B) (hf : Fs m n) (hx : Sl m n xa xc (X.map vi)) (hlX : X.length ≤ 1000) (hap : ∀ o s', xa ≠ some ⟨b, o, s'⟩) (haps : ∀ o s', xa ≠ some ⟨s, o, s'⟩) :
    ∃ m' n', SetP m n w s b (setF X M B).2.1 (setF X M B).2.2 m' n' ∧ Exact Try.prog fSpreadWheelSet [pp w, .slice xa X.length xc] m n (vi (setF X M B).1) m' n' := by
  generalize hm1 : m.set n (.cells none tPspreadWheel 1 [pp w]) = m1
  have hle : Le m n m1 (n + 1) := by rw [← hm1]; exact Le.new
  have hc : SetC m n m1 (n + 1) n w s b M B := ⟨by rw [← hm1]; simp [Tr.get_set], by omega, h.le hle, by omega, fun i hi _ _ => hle.same i hi, by rw [← hm1]; exact hf.set, fun x hx _ => hx.of (hle.same s h.ls)⟩
  obtain ⟨m', n', q, run⟩ := val_loop hc (hx.le hle) hlX hap haps h.ls X [] rfl rfl
  refine ⟨m', n', q, fun Q hq => ?_⟩
  refine Wc_of mixed (cfg := xcfg) (fuel := 400) ?_
  rw [xSpreadWheelSet]
  refine memLet.mk fun m1' e => ?_
  rw [hm1] at e; have e := e.symm; subst e
  refine W_of1 mixed (cfg := xcfg) (fuel := 400) ?_
  rw [xSpreadWheelSetk0]
  exact ⟨_, rd_of hc.gp rfl, valid_c hc.whl ⟨_, rfl, Later.mk (condF rfl (run Q hq))⟩⟩
end Go.Proofs.Ytblijemhmpfihaa

namespace Go.Proofs.Ytblijemhmpfihaa
open Go Go.Ab

theorem andLow {y : Nat} (h : y < 4294967296) : (BitVec.ofInt 64 (y : Int) &&& BitVec.ofInt 64 4294967295).toNat = y := by
  have e1 : BitVec.ofInt 64 (y : Int) = BitVec.ofNat 64 y := by simp
  have e2 : BitVec.ofInt 64 4294967295 = BitVec.ofNat 64 4294967295 := rfl
  rw [e1, e2, BitVec.toNat_and, BitVec.toNat_ofNat, BitVec.toNat_ofNat, Nat.mod_eq_of_lt (by omega), Nat.mod_eq_of_lt (by decide)]
  have := Nat.and_two_pow_sub_one_eq_mod y 32
  rw [show (2 ^ 32 - 1 : Nat) = 4294967295 by decide] at this
  rw [this]; omega
theorem wrap64 {x : Nat} (h : x < 4294967296) : IntKind.u64.wrap (x : Int) = x := by
  unfold IntKind.wrap
  simp only [IntKind.bits, IntKind.signed]
  have : (x : Int) % (2 ^ 64 : Int) = x := Int.emod_eq_of_lt (by omega) (by omega)
  rw [show (2 ^ 64 : Int) = 18446744073709551616 by rfl] at this
  simp [this]
theorem mul64_c {m : Mem} {n k : Nat} {Q : Value → Mem → Nat → Prop} (hk : k ≤ 1000000) (hq : Q (.tuple ⟨[.int .u64 0, .int .u64 k]⟩) m n) : Wc Try.prog fMathbitsMul [.int .u64 ((1 : Nat) : Int), .int .u64 (k : Int)] m n Q := by
  refine Wc_of mixed (cfg := xcfg) (fuel := 400) ?_
  rw [xMathbitsMul]
  refine Wc_of mixed (cfg := xcfg) (fuel := 400) ?_
  rw [xMathbitsMul64]
  refine ⟨by decide, by decide, by decide, by decide, by decide, _, _, rfl, Later.mk ?_⟩
  have w0 : IntKind.u64.wrap 0 = 0 := by decide
  have w1 : IntKind.u64.wrap 1 = 1 := by decide
  have d1 : ((1 : Nat) : Int).fdiv 4294967296 = 0 := by decide
  have dk : (k : Int).fdiv 4294967296 = 0 := by rw [Int.fdiv_eq_ediv_of_nonneg _ (by omega)]; omega
  have a1 := andLow (y := 1) (by decide)
  have ak := andLow (y := k) (by omega)
  have wk := wrap64 (x := k) (by omega)
  have l0 : (BitVec.ofInt 64 0 &&& BitVec.ofInt 64 4294967295).toNat = 0 := by decide
  have z0 : (0 : Int).fdiv 4294967296 = 0 := by decide
  rw [d1, dk, a1, ak, wk]
  simp only [Int.zero_mul, Int.mul_zero, w0, Int.natCast_one, w1, Int.one_mul, wk, dk, Int.add_zero, l0, Int.natCast_zero, z0]
  exact hq

theorem rep_loop {m0 : Mem} {nb k : Nat} {v : Int} (hk : 0 < k) (hk2 : k ≤ 1000) : ∀ (f d : Nat) (m : Mem) (n : Nat), d ≤ k → 0 < d → k - d ≤ f → m.get nb = some (.cells none tInt 1 (List.replicate d (vi v) ++ List.replicate (k - d) (vi 0))) → (∀ i, i ≠ nb → m.get i = m0.get i) →
    ∃ m' n', (m'.get nb = some (.cells none tInt 1 (List.replicate k (vi v))) ∧ (∀ i, i ≠ nb → m'.get i = m0.get i) ∧ n ≤ n') ∧ ∀ Q : Value → Mem → Nat → Prop, Q (.slice (some ⟨nb, 0, none⟩) k k) m' n' →
      W Try.prog { fn := fSlicesRepeatLintint, nt := 48, slots := [(7, .slice (some ⟨nb, 0, none⟩) k k), (8, .int .i64 (d : Nat))], todo := pt Try.prog fSlicesRepeatLintint [1, 1, 1, 1, 1, 1, 0, 0, 0] } m n Q := by
  intro f
  induction f with
  | zero =>
    intro d m n h1 h2 h3 hg hs
    obtain rfl : d = k := by omega
    refine ⟨m, n, ⟨by simpa using hg, hs, Nat.le_refl _⟩, fun Q hq => ?_⟩
    refine W_of mixed (cfg := xcfg) (fuel := 400) ?_
    rw [xSlicesRepeatLintintk2]
    exact condDF (by omega) hq
  | succ f ih =>
    intro d m n h1 h2 h3 hg hs
    by_cases hd : d = k
    · subst hd
      refine ⟨m, n, ⟨by simpa using hg, hs, Nat.le_refl _⟩, fun Q hq => ?_⟩
      refine W_of mixed (cfg := xcfg) (fuel := 400) ?_
      rw [xSlicesRepeatLintintk2]
      exact condDF (by omega) hq
    · generalize he : min d (k - d) = e
      generalize hm1 : m.set nb (.cells none tInt 1 (List.replicate (d + e) (vi v) ++ List.replicate (k - (d + e)) (vi 0))) = m1
      have hg1 : m1.get nb = some (.cells none tInt 1 (List.replicate (d + e) (vi v) ++ List.replicate (k - (d + e)) (vi 0))) := by rw [← hm1]; simp [Tr.get_set]
      obtain ⟨m', n', ⟨p1, p2, p3⟩, run⟩ := ih (d + e) m1 (n + 10) (by omega) (by omega) (by omega) hg1 fun i hi => by rw [← hm1, Tr.get_set, if_neg (fun e => hi e.symm)]; exact hs i hi
      refine ⟨m', n', ⟨p1, p2, by omega⟩, fun Q hq => ?_⟩
      refine W_of mixed (cfg := xcfg) (fuel := 400) ?_
      rw [xSlicesRepeatLintintk2]
      refine condDT (by omega) ?_
      refine ⟨⟨by omega, by omega⟩, ⟨by omega, by omega⟩, (e : Int), m1, ?_, Nat.le_refl _, ?_⟩
      · have hkd : ¬ k = d := by omega
        have hk0 : ¬ k = 0 := by omega
        simp only [Int.toNat_natCast, Nat.sub_zero, hkd, if_false, hk0]
        have hund : Try.prog.underlying tLint = some (.slice tInt) := by kernel_rfl
        have hsz : szOf Try.prog tInt = some 1 := by kernel_rfl
        have hsc : sliceCells m 1 (min d (k - d)) (.slice (some ⟨nb, 0, none⟩) d k) = some (List.replicate e (vi v)) := by
          rw [he]
          have : e ≤ d := by omega
          simp only [sliceCells, if_pos this, cellsOf, hg, takeAt]
          have hle : 0 + e * 1 ≤ (List.replicate d (vi v) ++ List.replicate (k - d) (vi 0)).length := by simp; omega
          rw [if_pos hle]
          simp [List.take_append_of_le_length, this]
        unfold copyV
        simp only [hund, hsz, hsc]
        have hne : ¬ min d (k - d) = 0 := by omega
        have hcap : 0 < k - d := by omega
        simp only [hne, if_false, hcap, if_true]
        have hst := store_of (m := m) (b := nb) (T := tInt) (sz := 1) (off := d) (vs := List.replicate e (vi v)) hg (by simp; omega) (by simp [cellOk])
        have hcs : (List.replicate d (vi v) ++ List.replicate (k - d) (vi 0)).take d ++ (List.replicate e (vi v) ++ (List.replicate d (vi v) ++ List.replicate (k - d) (vi 0)).drop (d + (List.replicate e (vi v)).length)) = List.replicate (d + e) (vi v) ++ List.replicate (k - (d + e)) (vi 0) := by
          rw [List.take_left' (by simp), ← List.append_assoc, List.replicate_append_replicate, List.length_replicate]
          congr 1
          have : d + e = (List.replicate d (vi v)).length + e := by simp
          rw [this, List.drop_append]
          simp; omega
        rw [hcs, hm1] at hst
        simp only [offOf, Nat.mul_one, Nat.zero_add, hst, he]
      · have hw : IntKind.i64.wrap ((d : Int) + (e : Int)) = ((d + e : Nat) : Int) := by rw [wrap_id (by omega) (by omega)]; omega
        rw [hw]
        exact run Q hq
theorem repeat_c {m : Mem} {n k : Nat} {v : Int} {xa : Option Addr} {xc : Nat} (hx : Sl m n xa xc [vi v]) (hk : 0 < k) (hk2 : k ≤ 1000) :
    ∃ m' n', m'.get n = some (.cells none tInt 1 (List.replicate k (vi v))) ∧ n < n' ∧ (∀ i, i ≠ n → m'.get i = m.get i) ∧ Exact Try.prog fSlicesRepeatLintint [.slice xa 1 xc, .int .i64 (k : Int)] m n (.slice (some ⟨n, 0, none⟩) k k) m' n' := by
  generalize hm1 : (m.set n (.cells none tInt 1 (List.replicate k (vi 0)))).set n (.cells none tInt 1 (List.replicate 1 (vi v) ++ List.replicate (k - 1) (vi 0))) = m1
  have hg1 : m1.get n = some (.cells none tInt 1 (List.replicate 1 (vi v) ++ List.replicate (k - 1) (vi 0))) := by rw [← hm1]; simp [Tr.get_set]
  obtain ⟨m', n', ⟨p1, p2, p3⟩, run⟩ := rep_loop (m0 := m1) hk hk2 k 1 m1 (n + 1) (by omega) (by omega) (by omega) hg1 fun _ _ => rfl
  refine ⟨m', n', p1, by omega, fun i hi => by rw [p2 i hi, ← hm1, Tr.get_set, if_neg (fun e => hi e.symm), Tr.get_set, if_neg (fun e => hi e.symm)], fun Q hq => ?_⟩
  refine Wc_of mixed (cfg := xcfg) (fuel := 400) ?_
  rw [xSlicesRepeatLintint]
  refine condDF (by omega) ?_
  refine W_of1 mixed (cfg := xcfg) (fuel := 400) ?_
  rw [xSlicesRepeatLintintk0]
  have w1 : IntKind.u64.wrap ((1 : Nat) : Int) = ((1 : Nat) : Int) := by decide
  rw [w1, wrap64 (x := k) (by omega)]
  refine mul64_c (by omega) ⟨_, _, rfl, Later.mk (condDF (by decide) (condDF (by omega) ?_))⟩
  refine W_of1 mixed (cfg := xcfg) (fuel := 400) ?_
  rw [xSlicesRepeatLintintk1]
  have hw : IntKind.i64.wrap (k : Int) = (k : Int) := wrap_id (by omega) (by omega)
  rw [hw]
  refine ⟨⟨by omega, by omega, by omega⟩, memLet.mk fun m0 e0 => ?_⟩
  have hfl : (List.replicate (k : Int).toNat [Value.int IntKind.i64 0]).flatten = List.replicate k (vi 0) := by simp [List.flatten_replicate_singleton]
  rw [hfl] at e0
  have hg0 : m0.get n = some (.cells none tInt 1 (List.replicate k (vi 0))) := by rw [e0]; simp [Tr.get_set]
  refine ⟨1, m1, ?_, ?_⟩
  · have hund : Try.prog.underlying tLint = some (.slice tInt) := by kernel_rfl
    have hsz : szOf Try.prog tInt = some 1 := by kernel_rfl
    have hmin : min 1 k = 1 := by omega
    have hle : Le m n m0 (n + 1) := by rw [e0]; exact Le.new
    have hsc := (hx.le hle).cells (l := 1) (sz := 1) rfl (by omega)
    unfold copyV
    simp only [Int.toNat_natCast, hund, hsz, hmin, hsc]
    have hst := store_of (m := m0) (b := n) (T := tInt) (sz := 1) (off := 0) (vs := [vi v]) hg0 (by simp; omega) (by simp [cellOk])
    have hcs : (List.replicate k (vi 0)).take 0 ++ ([vi v] ++ (List.replicate k (vi 0)).drop (0 + [vi v].length)) = List.replicate 1 (vi v) ++ List.replicate (k - 1) (vi 0) := by simp
    rw [hcs] at hst
    have hm : m0.set n (.cells none tInt 1 (List.replicate 1 (vi v) ++ List.replicate (k - 1) (vi 0))) = m1 := by
      rw [e0]; exact hm1
    rw [hm] at hst
    simp only [offOf, hst, hk, if_true]
    rfl
  · exact run Q hq
end Go.Proofs.Ytblijemhmpfihaa

namespace Go.Proofs.Ytblijemhmpfihaa
open Go Go.Ab Sp

def pickM (x n : Int) : Int := if x.tmod n < 0 then IntKind.i64.wrap (x.tmod n + n) else x.tmod n
theorem pickM_range {x n : Int} (hn : 0 < n) (hb : n ≤ 100000) : 0 ≤ pickM x n ∧ pickM x n < n := by
  unfold pickM
  have h1 := Int.tmod_lt_of_pos x hn
  have h2 : -n < x.tmod n := by
    have := Int.lt_tmod_of_pos x hn
    omega
  split
  · rw [wrap_id (by omega) (by omega)]; omega
  · omega
theorem pickM_id {x n : Int} (h0 : 0 ≤ x) (h : x < n) : pickM x n = x := by
  unfold pickM
  rw [Int.tmod_eq_emod_of_nonneg h0, Int.emod_eq_of_lt h0 h, if_neg (by omega)]
theorem pick_c {m : Mem} {n : Nat} {x k : Int} {Q : Value → Mem → Nat → Prop} (hk : 0 < k) (hq : Q (.int .i64 (pickM x k)) m n) : Wc Try.prog fKitPick [.int .i64 x, .int .i64 k] m n Q := by
  refine Wc_of mixed (cfg := xcfg) (fuel := 400) ?_
  rw [xKitPick]
  unfold pickM at hq
  refine ⟨by omega, ?_⟩
  by_cases h : x.tmod k < 0
  · rw [if_pos h] at hq; exact condDT h hq
  · rw [if_neg h] at hq; exact condDF h hq
theorem has_loop {m : Mem} {n0 : Nat} {X : List Int} {xa : Option Addr} {xc : Nat} {v : Int} {Q : Value → Mem → Nat → Prop} (hx : Sl m n0 xa xc (X.map vi)) (hl : X.length ≤ 1000) :
    ∀ l pre n, X = pre ++ l → Q (.bool (l.contains v)) m n → W Try.prog { fn := fKitHasint, nt := 18, slots := [(0, .slice xa X.length xc), (1, vi v), (5, .int .i64 pre.length)], todo := pt Try.prog fKitHasint [1, 0, 1, 0, 0] } m n Q := by
  intro l
  induction l with
  | nil =>
    intro pre n h hq
    refine W_of mixed (cfg := xcfg) (fuel := 400) ?_
    rw [xKitHasintk0]
    exact condDF (by simp [h]) hq
  | cons y l ih =>
    intro pre n h hq
    refine W_of mixed (cfg := xcfg) (fuel := 400) ?_
    rw [xKitHasintk0]
    have hlt : pre.length < X.length := by simp [h]
    have hy : X[pre.length] = y := by simp [h]
    have hw := wrapN (k := pre.length) (by omega)
    refine condDT (by omega) (hx.ldi hlt ?_)
    rw [hy]
    refine condE (fun e => by simpa [e] using hq) fun e => ?_
    have e' : ¬ v = y := fun h => e h.symm
    have := ih (pre ++ [y]) n (by simp [h]) (by simpa [e'] using hq)
    have hlen : (((pre ++ [y]).length : Nat) : Int) = ((pre.length + 1 : Nat) : Int) := by simp
    rw [hlen, ← hw] at this
    exact this
theorem has_c {m : Mem} {n : Nat} {X : List Int} {xa : Option Addr} {xc : Nat} {v : Int} {Q : Value → Mem → Nat → Prop} (hx : Sl m n xa xc (X.map vi)) (hl : X.length ≤ 1000) (hq : Q (.bool (X.contains v)) m n) :
    Wc Try.prog fKitHasint [.slice xa X.length xc, vi v] m n Q := by
  refine Wc_of mixed (cfg := xcfg) (fuel := 400) ?_
  rw [xKitHasint]
  exact has_loop hx hl X [] n rfl hq
theorem sameI_loop {m : Mem} {a b : Option Addr} {c d : Nat} {xs ys : List Int} {Q : Value → Mem → Nat → Prop} {n0 : Nat} (hx : Sl m n0 a c (xs.map vi)) (hy : Sl m n0 b d (ys.map vi)) (hlx : xs.length ≤ 1000) :
    ∀ lx ly pre pre' n, xs = pre ++ lx → ys = pre' ++ ly → pre.length = pre'.length → lx.length = ly.length → (∀ n', n ≤ n' → Q (.bool (lx == ly)) m n') →
      W Try.prog { fn := fKitSameint, nt := 26, slots := [(0, .slice a xs.length c), (1, .slice b ys.length d), (5, .int .i64 pre.length)], todo := pt Try.prog fKitSameint [1, 1, 0, 1, 0, 0] } m n Q := by
  intro lx
  induction lx with
  | nil =>
    intro ly pre pre' n h1 h2 h3 h4 hq
    refine W_of mixed (cfg := xcfg) (fuel := 400) ?_
    rw [xKitSameintk0]
    obtain rfl : ly = [] := List.length_eq_zero_iff.1 (by simpa using h4.symm)
    exact condDF (by simp [h1]) (hq n (Nat.le_refl _))
  | cons x lx ih =>
    intro ly pre pre' n h1 h2 h3 h4 hq
    cases ly with
    | nil => simp at h4
    | cons y ly =>
      refine W_of mixed (cfg := xcfg) (fuel := 400) ?_
      rw [xKitSameintk0]
      have hlt : pre.length < xs.length := by simp [h1]
      have ex : xs[pre.length] = x := by simp [h1]
      have hw := wrapN (k := pre.length) (by omega)
      have hlt2 : pre.length < ys.length := by simp [h2, h3]
      have ey : ys[pre.length] = y := by simp [h2, h3]
      refine condDT (by omega) (hx.ldi hlt (hy.ldi hlt2 ?_))
      rw [ex, ey]
      refine condN (fun g1 => ?_) fun g1 => ?_
      · have e : (x :: lx == y :: ly) = false := by simp [g1]
        rw [e] at hq
        exact hq (n + 9) (by omega)
      · have nxt := ih ly (pre ++ [x]) (pre' ++ [y]) (n + 9) (by simp [h1]) (by simp [h2]) (by simp [h3]) (by simpa using h4) fun n' hn => by simpa [g1] using hq n' (by omega)
        have hlen : ((pre ++ [x]).length : Int) = ((pre.length + 1 : Nat) : Int) := by simp
        rw [hlen, ← hw] at nxt
        exact nxt
theorem sameI_c {m : Mem} {n : Nat} {a b : Option Addr} {c d : Nat} {xs ys : List Int} {Q : Value → Mem → Nat → Prop} (hx : Sl m n a c (xs.map vi)) (hy : Sl m n b d (ys.map vi)) (hlx : xs.length ≤ 1000) (hq : Q (.bool (xs == ys)) m n) :
    Wc Try.prog fKitSameint [.slice a xs.length c, .slice b ys.length d] m n Q := by
  refine Wc.scalar (u := .bool (xs == ys)) ?_ rfl hq
  refine Wc_of mixed (cfg := xcfg) (fuel := 400) ?_
  rw [xKitSameint]
  refine condN (fun h => ?_) fun h => ?_
  · have : (xs == ys) = false := by rw [beq_eq_false_iff_ne]; rintro rfl; exact h rfl
    rw [this]; exact ⟨rfl, Le.refl⟩
  · exact sameI_loop hx hy hlx xs ys [] [] n rfl rfl rfl (by omega) fun n' h => ⟨rfl, Le.refl.up h⟩
theorem own_c {m : Mem} {n : Nat} {a : Option Addr} {c : Nat} {xs : List Int} (hx : Sl m n a c (xs.map vi)) (hl : xs.length ≤ 1000) :
    ∃ a' m' n', Ow m' n n' tInt 1 a' xs.length xs.length (xs.map vi) ∧ Le m n m' n' ∧ (Fs m n → Fs m' n') ∧ Exact Try.prog fKitOwnint [.slice a xs.length c] m n (.slice a' xs.length xs.length) m' n' := by
  have h0 : Ow (m.set n (.cells none tInt 1 [])) n (n + 1) tInt 1 (some ⟨n, 0, none⟩) 0 0 [] := Ow.new (Nat.le_refl _) rfl
  have hle : Le m n (m.set n (.cells none tInt 1 [])) (n + 1) := Le.new
  obtain ⟨a', m', n', h1, h2, h3, h4, h5, h6⟩ := h0.append (t := tLint) (k := xs.length) intOk ((hx.le hle).cells (by simp) (by omega)) (by simp [cellOk]) (by simp) (by omega) (by omega)
  rw [Nat.zero_add] at h1 h2
  rw [List.nil_append] at h2
  refine ⟨a', m', n', h2, ⟨by omega, fun i hi => ?_⟩, fun hf => h6 hf.set, fun Q hq => ?_⟩
  · rw [h5 i (by omega) (by intro b o s e; cases e; omega)]; exact hle.same i hi
  · refine Wc_of mixed (cfg := xcfg) (fuel := 400) ?_
    rw [xKitOwnint]
    refine memLet.mk fun m0 hm => ?_
    subst hm
    exact ⟨_, _, _, _, _, h1, hq⟩

/-- A new wheel. -/
theorem New_c {m : Mem} {n k : Nat} {Q : Value → Mem → Nat → Prop} (hk : 0 < k) (hk2 : k ≤ 256)
    (hq : ∀ m' n' w s b, Whl m' n' w s b [] (List.replicate k (-1)) → Le m n m' n' → n ≤ w → n ≤ s → n ≤ b → (∀ x, ¬ memBlk m' s x) → Q (.tuple ⟨[pp w, .int .i64 0]⟩) m' n') : Wc Try.prog fSpreadNew [.int .i64 (k : Int)] m n Q := by
  refine Wc_of mixed (cfg := xcfg) (fuel := 400) ?_
  rw [xSpreadNew]
  refine condDF (by omega) (condDF (by omega) (memLet.mk fun m0 e0 => ?_))
  have hsl : Sl m0 (n + 1) (some ⟨n, 0, none⟩) 1 [vi (-1)] := by rw [e0]; exact (Ow.new (n0 := 0) (T := tInt) (sz := 1) (l := 1) (m := m) (cs := [vi (-1)]) (Nat.zero_le _) rfl).sl
  obtain ⟨m1, n1, g1, l1, s1, run⟩ := repeat_c hsl hk (by omega)
  refine run _ ⟨_, _, _, rfl, Later.mk (memLet.mk fun m2 e2 => memLet.mk fun m3 e3 => ?_)⟩
  have lo : ∀ i, i < n → m3.get i = m.get i := fun i hi => by
    rw [e3, Tr.get_set, if_neg (by omega), e2, Tr.get_set, if_neg (by omega), s1 i (by omega), e0, Tr.get_set, if_neg (by omega)]
  have hb3 : m3.get (n + 1) = some (.cells none tInt 1 (List.replicate k (vi (-1)))) := by
    rw [e3, Tr.get_set, if_neg (by omega), e2, Tr.get_set, if_neg (by omega)]; exact g1
  have hmap : (List.replicate k (-1 : Int)).map vi = List.replicate k (vi (-1)) := by simp
  have how : Ow m3 0 (n1 + 1 + 1) tInt 1 (some ⟨n + 1, 0, none⟩) (List.replicate k (-1 : Int)).length (List.replicate k (-1 : Int)).length ((List.replicate k (-1 : Int)).map vi) := by
    rw [hmap]
    exact ⟨rfl, by simp, .inr ⟨n + 1, 0, none, _, rfl, Nat.zero_le _, by omega, hb3, by simp, by simp⟩⟩
  refine hq m3 (n1 + 1 + 1) (n1 + 1) n1 (n + 1) ⟨by rw [e3]; simp [Tr.get_set], by omega, by omega, by simp; omega, by simp; omega, none, 0, 0, none, ⟨?_, Sl.nil, how.sl, by simp, by simp; omega⟩, how⟩ ⟨by omega, lo⟩ (by omega) (by omega) (by omega) (fun x hx => ?_)
  · rw [e3, Tr.get_set, if_neg (by omega), e2]
    simp [Tr.get_set]
  · obtain ⟨o, s', l, c, r, e⟩ := hx
    rw [e3, Tr.get_set, if_neg (by omega), e2] at e
    simp [Tr.get_set] at e
end Go.Proofs.Ytblijemhmpfihaa

namespace Go.Proofs.Ytblijemhmpfihaa
open Go Go.Ab Sp

def hit (xs : List Int) (v : Int) : Bool := xs.any fun x => pickM x 128 == v
def memGo (xs : List Int) (most : Int) : Nat → List Int → List Int
  | 0, out => out
  | r + 1, out => if (out.length : Int) < most then memGo xs most r (if hit xs (127 - r) then out ++ [127 - (r : Int)] else out) else out
def memP (xs : List Int) (most : Int) : List Int := memGo xs most 128 []

/-- A list of numbers that is under way. -/
structure Bld (m0 : Mem) (n0 : Nat) (m : Mem) (n : Nat) (a : Option Addr) (l : Nat) (X : List Int) : Prop where
  ow : Ow m n0 n tInt 1 a l l (X.map vi)
  len : l = X.length
  le : Le m0 n0 m n
  fs : Fs m0 n0 → Fs m n
theorem Bld.push {m0 m : Mem} {n0 n l : Nat} {a : Option Addr} {X : List Int} (h : Bld m0 n0 m n a l X) (hX : X.length ≤ 1000) (v : Int) :
    ∃ a' m' n', appendA Try.prog (m.set n (.cells none tInt 1 [vi v])) (n + 1) tLint tLint (.slice a l l) (.slice (some ⟨n, 0, none⟩) 1 1) = .val (.slice a' (l + 1) (l + 1)) m' n' ∧ Bld m0 n0 m' n' a' (l + 1) (X ++ [v]) := by
  have hle : Le m n (m.set n (.cells none tInt 1 [vi v])) (n + 1) := Le.new
  have how := h.ow.le hle
  have hle0 := h.le.le
  have hsc : sliceCells (m.set n (.cells none tInt 1 [vi v])) 1 1 (.slice (some ⟨n, 0, none⟩) 1 1) = some [vi v] := one_cell (T := tInt) (sz := 1) (by simp [Tr.get_set])
  have hl := h.len
  obtain ⟨a', m', n', h1, h2, h3, h4, h5, h6⟩ := how.append (t := tLint) (k := 1) intOk hsc (by simp [cellOk]) (by simp) (by omega) (by omega)
  refine ⟨a', m', n', h1, by simpa using h2, by simp [hl], ⟨by omega, fun i hi => ?_⟩, fun hf => h6 (h.fs hf).set⟩
  rw [h5 i (by omega) (fun b o s e => by have := how.bnd e; omega), hle.same i (by omega)]
  exact h.le.same i hi

theorem mem_in {m0 : Mem} {n0 : Nat} {xs : List Int} {xa : Option Addr} {xc : Nat} {most v : Int} (hx : Sl m0 n0 xa xc (xs.map vi)) (hlx : xs.length ≤ 1000) {out : List Int} (hout : out.length ≤ 200) :
    ∀ l pre (m : Mem) (n : Nat) (a : Option Addr) (ln : Nat), xs = pre ++ l → Bld m0 n0 m n a ln out → ∃ a' m' n' ln', Bld m0 n0 m' n' a' ln' (if hit l v then out ++ [v] else out) ∧
      ∀ Q : Value → Mem → Nat → Prop, W Try.prog { fn := fLaw11members, nt := 36, slots := [(0, .slice xa xs.length xc), (1, .int .i64 most), (5, .slice a' ln' ln'), (6, .int .i64 (IntKind.i64.wrap (v + 1)))], todo := pt Try.prog fLaw11members [1, 1, 0, 1, 0, 0] } m' n' Q →
        W Try.prog { fn := fLaw11members, nt := 36, slots := [(0, .slice xa xs.length xc), (1, .int .i64 most), (5, .slice a ln ln), (6, .int .i64 v), (7, .int .i64 pre.length)], todo := pt Try.prog fLaw11members [1, 1, 0, 1, 0, 0, 1, 0, 0, 1, 0, 0] } m n Q := by
  intro l
  induction l with
  | nil =>
    intro pre m n a ln h hb
    refine ⟨a, m, n, ln, by simpa [hit] using hb, fun Q hq => ?_⟩
    refine W_of mixed (cfg := xcfg) (fuel := 400) ?_
    rw [xLaw11membersk1]
    exact condDF (by simp [h]) hq
  | cons y l ih =>
    intro pre m n a ln h hb
    have hlt : pre.length < xs.length := by simp [h]
    have hy : xs[pre.length] = y := by simp [h]
    have hw := wrapN (k := pre.length) (by omega)
    by_cases hv : pickM y 128 = v
    · obtain ⟨a', m', n', happ, hb'⟩ := hb.push (by omega) v
      have : hit (y :: l) v = true := by simp [hit, hv]
      refine ⟨a', m', n', ln + 1, by rw [this]; exact hb', fun Q hq => ?_⟩
      refine W_of mixed (cfg := xcfg) (fuel := 400) ?_
      rw [xLaw11membersk1]
      refine condDT (by omega) ((hx.le hb.le).ldi hlt ?_)
      rw [hy]
      refine pick_c (by omega) ⟨_, rfl, Later.mk (condET hv (memLet.mk fun m1 e1 => ?_))⟩
      subst e1
      exact ⟨_, _, _, _, _, happ, hq⟩
    · obtain ⟨a', m', n', ln', hb', run⟩ := ih (pre ++ [y]) m n a ln (by simp [h]) hb
      have : hit (y :: l) v = hit l v := by simp [hit, hv]
      refine ⟨a', m', n', ln', by rw [this]; exact hb', fun Q hq => ?_⟩
      refine W_of mixed (cfg := xcfg) (fuel := 400) ?_
      rw [xLaw11membersk1]
      refine condDT (by omega) ((hx.le hb.le).ldi hlt ?_)
      rw [hy]
      refine pick_c (by omega) ⟨_, rfl, Later.mk (condEF hv ?_)⟩
      have hlen : (((pre ++ [y]).length : Nat) : Int) = ((pre.length + 1 : Nat) : Int) := by simp
      rw [hlen, ← hw] at run
      exact run Q hq
theorem mem_out {m0 : Mem} {n0 : Nat} {xs : List Int} {xa : Option Addr} {xc : Nat} {most : Int} (hx : Sl m0 n0 xa xc (xs.map vi)) (hlx : xs.length ≤ 1000) :
    ∀ (r : Nat) (v : Int) (out : List Int) (m : Mem) (n : Nat) (a : Option Addr) (ln : Nat), v + r = 128 → r ≤ 128 → out.length + r ≤ 128 → Bld m0 n0 m n a ln out → ∃ a' m' n' ln', Bld m0 n0 m' n' a' ln' (memGo xs most r out) ∧
      ∀ Q : Value → Mem → Nat → Prop, Q (.slice a' ln' ln') m' n' →
        W Try.prog { fn := fLaw11members, nt := 36, slots := [(0, .slice xa xs.length xc), (1, .int .i64 most), (5, .slice a ln ln), (6, .int .i64 v)], todo := pt Try.prog fLaw11members [1, 1, 0, 1, 0, 0] } m n Q := by
  intro r
  induction r with
  | zero =>
    intro v out m n a ln hv _ _ hb
    refine ⟨a, m, n, ln, hb, fun Q hq => ?_⟩
    refine W_of mixed (cfg := xcfg) (fuel := 400) ?_
    rw [xLaw11membersk0]
    have h128 : ¬ v < 128 := by omega
    exact condDF h128 hq
  | succ r ih =>
    intro v out m n a ln hv hr ho hb
    have hln := hb.len
    have h128 : v < 128 := by omega
    have hv7 : v = 127 - r := by omega
    by_cases hlt : (out.length : Int) < most
    · obtain ⟨a1, m1, n1, ln1, hb1, run1⟩ := mem_in (most := most) (v := v) hx hlx (out := out) (by omega) xs [] m n a ln rfl hb
      obtain ⟨a', m', n', ln', hb', run⟩ := ih (v + 1) (if hit xs v then out ++ [v] else out) m1 n1 a1 ln1 (by omega) (by omega) (by
        split
        · rw [List.length_append, List.length_singleton]; omega
        · omega) hb1
      refine ⟨a', m', n', ln', by rw [memGo, if_pos hlt, ← hv7]; exact hb', fun Q hq => ?_⟩
      refine W_of mixed (cfg := xcfg) (fuel := 400) ?_
      rw [xLaw11membersk0]
      have hlt' : (ln : Int) < most := by omega
      refine condDT h128 (condDT hlt' ?_)
      refine run1 Q ?_
      have hw : IntKind.i64.wrap (v + 1) = v + 1 := wrap_id (by omega) (by omega)
      rw [hw]
      exact run Q hq
    · refine ⟨a, m, n, ln, by rw [memGo, if_neg hlt]; exact hb, fun Q hq => ?_⟩
      refine W_of mixed (cfg := xcfg) (fuel := 400) ?_
      rw [xLaw11membersk0]
      have hlt' : ¬ (ln : Int) < most := by omega
      exact condDT h128 (condDF hlt' hq)
theorem members_c {m : Mem} {n : Nat} {xs : List Int} {xa : Option Addr} {xc : Nat} (most : Int) (hx : Sl m n xa xc (xs.map vi)) (hlx : xs.length ≤ 1000) :
    ∃ a' m' n', Bld m n m' n' a' (memP xs most).length (memP xs most) ∧ Exact Try.prog fLaw11members [.slice xa xs.length xc, .int .i64 most] m n (.slice a' (memP xs most).length (memP xs most).length) m' n' := by
  obtain ⟨a', m', n', ln', hb, run⟩ := mem_out (most := most) hx hlx 128 0 [] m n none 0 (by decide) (Nat.le_refl _) (by simp) ⟨Ow.nil, rfl, Le.refl, fun h => h⟩
  have := hb.len
  subst this
  refine ⟨a', m', n', hb, fun Q hq => ?_⟩
  refine Wc_of mixed (cfg := xcfg) (fuel := 400) ?_
  rw [xLaw11members]
  exact run Q hq

/- what members are -/
theorem memGo_asc {xs : List Int} {most : Int} : ∀ (r : Nat) (out : List Int), r ≤ 128 → Asc out → (∀ x ∈ out, x < 128 - (r : Int)) → Asc (memGo xs most r out)
  | 0, _, _, h, _ => h
  | r + 1, out, hr, h, hlt => by
    simp only [memGo]
    split
    · refine memGo_asc r _ (by omega) ?_ ?_
      · split
        · refine ⟨List.pairwise_append.2 ⟨h.1, List.pairwise_singleton .., fun x hx y hy => ?_⟩, fun x hx => ?_⟩
          · simp only [List.mem_singleton] at hy; subst hy; have := hlt x hx; omega
          · rcases List.mem_append.1 hx with hx | hx
            · exact h.2 x hx
            · simp only [List.mem_singleton] at hx; subst hx; omega
        · exact h
      · intro x hx
        split at hx
        · rcases List.mem_append.1 hx with hx | hx
          · have := hlt x hx; omega
          · simp only [List.mem_singleton] at hx; omega
        · have := hlt x hx; omega
    · exact h
theorem memP_asc (xs : List Int) (most : Int) : Asc (memP xs most) := memGo_asc 128 [] (Nat.le_refl _) ⟨.nil, fun _ h => nomatch h⟩ fun _ h => nomatch h
theorem memGo_len {xs : List Int} {most : Int} : ∀ (r : Nat) (out : List Int), (out.length : Int) ≤ most → ((memGo xs most r out).length : Int) ≤ most
  | 0, _, h => h
  | r + 1, out, h => by
    simp only [memGo]
    split
    · refine memGo_len r _ ?_
      split
      · simp; omega
      · exact h
    · exact h
theorem memP_len (xs : List Int) {most : Int} (h : 0 ≤ most) : ((memP xs most).length : Int) ≤ most := memGo_len 128 [] (by simpa using h)
/-- With room for all, every number that is hit is a member. -/
theorem memGo_all {xs : List Int} {v : Int} : ∀ (r : Nat) (out : List Int), out.length + r ≤ 128 → (v ∈ out ∨ (128 - (r : Int) ≤ v ∧ v < 128 ∧ hit xs v = true)) → v ∈ memGo xs 128 r out
  | 0, out, _, h => by
    rcases h with h | ⟨h1, h2, _⟩
    · exact h
    · omega
  | r + 1, out, hl, h => by
    simp only [memGo]
    rw [if_pos (by omega)]
    refine memGo_all r _ (by
      split
      · rw [List.length_append, List.length_singleton]; omega
      · omega) ?_
    rcases h with h | ⟨h1, h2, h3⟩
    · left; split
      · exact List.mem_append_left _ h
      · exact h
    · by_cases e : v = 127 - r
      · left; rw [if_pos (by rw [← e]; exact h3)]; simp [e]
      · right; exact ⟨by omega, h2, h3⟩
theorem memP_all {xs : List Int} {v : Int} (h0 : 0 ≤ v) (h1 : v < 128) (h : hit xs v = true) : v ∈ memP xs 128 := memGo_all 128 [] (by simp) (.inr ⟨by omega, h1, h⟩)

/-- A row of numbers that came in. -/
structure Row where
  a : Option Addr
  c : Nat
  xs : List Int
def encR (r : Row) : List Value := [.slice r.a r.xs.length r.c]
theorem encR_len (r : Row) : (encR r).length = 1 := rfl
def Rows1 (m : Mem) (n : Nat) (rows : List Row) : Prop := ∀ r ∈ rows, Sl m n r.a r.c (r.xs.map vi)
theorem Rows1.le {m m' : Mem} {n n' : Nat} {rows : List Row} (h : Rows1 m n rows) (k : Le m n m' n') : Rows1 m' n' rows := fun r hr => (h r hr).le k
/-- The members of a row, out of a list of rows. -/
theorem Sl.ldr {m : Mem} {n : Nat} {a : Option Addr} {c : Nat} {rows : List Row} (h : Sl m n a c (rows.flatMap encR)) {i : Nat} (hi : i < rows.length) {K : Option Addr → Nat → Nat → Prop} (hk : K rows[i].a rows[i].xs.length rows[i].c) :
    elimA a False fun b o s => (0 ≤ (i : Int) ∧ (i : Int) < (rows.length : Int) ∧ liveAt m b = true ∧ (s ≠ none → 0 < c)) ∧ ∃ p k1 k2, rd m b (offOf o s + (i : Int).toNat * 1) = some (.slice p k1 k2) ∧ K p k1 k2 := by
  refine h.ldv encR_len hi (by omega) fun b o s _ h1 _ => ?_
  have := h1 0 (.slice rows[i].a rows[i].xs.length rows[i].c) rfl
  exact ⟨_, _, _, by simpa using this, hk⟩
theorem short_loop {m : Mem} {n0 : Nat} {rows : List Row} {la : Option Addr} {lc : Nat} {Q : Value → Mem → Nat → Prop} (hx : Sl m n0 la lc (rows.flatMap encR)) (hl : rows.length ≤ 9223372036854775807) :
    ∀ l pre n, rows = pre ++ l → Q (.bool (l.all (fun r => decide (r.xs.length ≤ 64)) && decide (rows.length ≤ 8))) m n → W Try.prog { fn := fLaw11short, nt := 19, slots := [(0, .slice la rows.length lc), (3, .int .i64 pre.length)], todo := pt Try.prog fLaw11short [1, 0, 1, 0, 0] } m n Q := by
  intro l
  induction l with
  | nil =>
    intro pre n h hq
    refine W_of mixed (cfg := xcfg) (fuel := 400) ?_
    rw [xLaw11shortk0]
    refine condDF (by simp [h]) ?_
    have e : decide ((rows.length : Int) ≤ 8) = decide (rows.length ≤ 8) := by congr 1; exact propext (by omega)
    rw [e]; simpa using hq
  | cons y l ih =>
    intro pre n h hq
    refine W_of mixed (cfg := xcfg) (fuel := 400) ?_
    rw [xLaw11shortk0]
    have hlt : pre.length < rows.length := by simp [h]
    have hy : rows[pre.length] = y := by simp [h]
    have hw := wrapN (k := pre.length) (by omega)
    refine condDT (by omega) (Sl.ldr hx hlt ?_)
    rw [hy]
    refine condD (fun e => ?_) fun e => ?_
    · have : decide (y.xs.length ≤ 64) = false := by simp; omega
      simpa [this] using hq
    · have : decide (y.xs.length ≤ 64) = true := by simp; omega
      have nxt := ih (pre ++ [y]) n (by simp [h]) (by simpa [this] using hq)
      have hlen : (((pre ++ [y]).length : Nat) : Int) = ((pre.length + 1 : Nat) : Int) := by simp
      rw [hlen, ← hw] at nxt
      exact nxt
end Go.Proofs.Ytblijemhmpfihaa

namespace Go.Proofs.Ytblijemhmpfihaa
open Go Go.Ab Sp

def shortP (rows : List Row) : Bool := rows.all (fun r => decide (r.xs.length ≤ 64)) && decide (rows.length ≤ 8)
theorem short_c {m : Mem} {n : Nat} {rows : List Row} {la : Option Addr} {lc : Nat} {Q : Value → Mem → Nat → Prop} (hx : Sl m n la lc (rows.flatMap encR)) (hl : rows.length ≤ 9223372036854775807) (hq : Q (.bool (shortP rows)) m n) : Wc Try.prog fLaw11short [.slice la rows.length lc] m n Q := by
  refine Wc_of mixed (cfg := xcfg) (fuel := 400) ?_
  rw [xLaw11short]
  exact short_loop hx hl rows [] n rfl hq

/-- A wheel of one's own, between the calls. -/
structure Own11 (m0 : Mem) (n0 : Nat) (m : Mem) (n w s b : Nat) (M B : List Int) (k : Nat) : Prop where
  whl : Whl m n w s b M B
  inv : Inv M B
  len : B.length = k
  le : Le m0 n0 m n
  ls : n0 ≤ s
  lb : n0 ≤ b
  ml : M.length ≤ k
theorem Own11.more {m0 m m' : Mem} {n0 n n' w s b : Nat} {M B : List Int} {k : Nat} (h : Own11 m0 n0 m n w s b M B k) (hl : Le m n m' n') : Own11 m0 n0 m' n' w s b M B k :=
  ⟨h.whl.le hl, h.inv, h.len, h.le.trans hl, h.ls, h.lb, h.ml⟩
/-- Setting good members. -/
theorem Own11.set {m0 m : Mem} {n0 n w s b : Nat} {M B X : List Int} {k : Nat} {xa : Option Addr} {xc : Nat} (h : Own11 m0 n0 m n w s b M B k) (hf : Fs m n) (hx : Sl m n xa xc (X.map vi)) (hX : Asc X) (hl : X.length ≤ k) (hap : ∀ b' o s', xa = some ⟨b', o, s'⟩ → b' ≠ b ∧ b' ≠ s) :
    ∃ m' n', Own11 m0 n0 m' n' w s b X (setB X B) k ∧ Fs m' n' ∧ n ≤ n' ∧ (∀ i, i < n → i ≠ s → i ≠ b → m'.get i = m.get i) ∧ Exact Try.prog fSpreadWheelSet [pp w, .slice xa X.length xc] m n (vi 0) m' n' := by
  have hbig := h.whl.big
  have hlen := h.len
  obtain ⟨m', n', hp, run⟩ := Set_c h.whl hf hx (by omega) (fun o s' e => (hap b o s' e).1 rfl) (fun o s' e => (hap s o s' e).2 rfl)
  have hF : Sp.setF X M B = (0, (X, setB X B)) := by unfold Sp.setF; rw [if_neg (by simp [hX.err0]), if_neg (by omega)]
  rw [hF] at hp run
  refine ⟨m', n', ⟨hp.whl, Inv.set hX hbig, by rw [setB_length]; exact hlen, ⟨Nat.le_trans h.le.le hp.le, fun i hi => ?_⟩, h.ls, h.lb, hl⟩, hp.fs, hp.le, hp.same, run⟩
  have h1 := h.ls
  have h2 := h.lb
  rw [hp.same i (by have := h.le.le; omega) (by omega) (by omega)]
  exact h.le.same i hi

theorem wheel_loop {m0 : Mem} {n0 w s b k : Nat} {rows : List Row} {la : Option Addr} {lc : Nat} {x : Int} (hx : Sl m0 n0 la lc (rows.flatMap encR)) (hr : Rows1 m0 n0 rows) (hsh : shortP rows = true) (hk : (k : Int) = 1 + pickM x 64) {Q : Value → Mem → Nat → Prop}
    (hq : ∀ m' n' M B, Own11 m0 n0 m' n' w s b M B k → Fs m' n' → Q (pp w) m' n') :
    ∀ l pre (m : Mem) (n : Nat) (M B : List Int), rows = pre ++ l → Own11 m0 n0 m n w s b M B k → Fs m n →
      W Try.prog { fn := fLaw11wheel, nt := 39, slots := [(0, .int .i64 x), (1, .slice la rows.length lc), (5, pp w), (7, .int .i64 (pre.length : Nat))], todo := pt Try.prog fLaw11wheel [1, 1, 1, 0, 1, 0, 0] } m n Q := by
  have hp := pickM_range (x := x) (n := 64) (by omega) (by omega)
  simp only [shortP, Bool.and_eq_true, List.all_eq_true, decide_eq_true_eq] at hsh
  intro l
  induction l with
  | nil =>
    intro pre m n M B h ho hf
    refine W_of mixed (cfg := xcfg) (fuel := 400) ?_
    rw [xLaw11wheelk0]
    exact condDF (by simp [h]) (hq m n M B ho hf)
  | cons y l ih =>
    intro pre m n M B h ho hf
    refine W_of mixed (cfg := xcfg) (fuel := 400) ?_
    rw [xLaw11wheelk0]
    have hlt : pre.length < rows.length := by simp [h]
    have hy : rows[pre.length] = y := by simp [h]
    have hym : y ∈ rows := by rw [h]; simp
    have hw := wrapN (k := pre.length) (by omega)
    have hw1 : IntKind.i64.wrap (1 + pickM x 64) = (k : Int) := by rw [wrap_id (by omega) (by omega)]; omega
    have hly := hsh.1 y hym
    have hlx := hx.le ho.le
    have hry := (hr.le ho.le) y hym
    -- the members
    obtain ⟨pa, m1, n1, hb1, run1⟩ := members_c (k : Int) (hry.same (n' := n + 11) (by omega) fun _ _ _ _ => rfl) (by omega)
    have ho1 : Own11 m0 n0 m1 n1 w s b M B k := ho.more ((Le.refl.up (by omega)).trans hb1.le)
    have hf1 : Fs m1 n1 := hb1.fs (hf.up (by omega))
    have hml := memP_len y.xs (most := (k : Int)) (by omega)
    obtain ⟨m2, n2, ho2, hf2, l2, _, run2⟩ := ho1.set hf1 hb1.ow.sl (memP_asc y.xs (k : Int)) (by omega) (fun b' o s' e => by
      have := (hb1.ow.bnd e).1
      have h1 := ho.whl.ls
      have h2 := ho.whl.cellb.1
      omega)
    have hlen2 := ih (pre ++ [y]) m2 n2 _ _ (by simp [h]) ho2 hf2
    have hlen : (((pre ++ [y]).length : Nat) : Int) = ((pre.length + 1 : Nat) : Int) := by simp
    rw [hlen, ← hw] at hlen2
    obtain ⟨b0, o0, s0, e0, g1, g2, g3⟩ := hlx.at (j := pre.length) (v := .slice y.a y.xs.length y.c) (by
      have := flatMap_get encR_len rows (i := pre.length) (x := y) (by simp [h]) 0 (by omega)
      simpa [encR] using this)
    subst e0
    refine condDT (by omega) ⟨⟨by omega, by omega, g1, g2⟩, _, _, _, by simpa using g3, ?_⟩
    refine ⟨_, _, _, pick_c (by omega) ⟨rfl, rfl, rfl⟩, Later.mk ?_⟩
    rw [hw1]
    refine ⟨_, _, _, _, _, run1 _ ⟨rfl, rfl, rfl⟩, Later.mk ⟨_, _, _, run2 _ ⟨rfl, rfl, rfl⟩, Later.mk ?_⟩⟩
    have l1 := hb1.le.le
    refine ⟨⟨_, _, _, by simpa using g3, rfl⟩, ⟨⟨by omega, by omega, g1, g2⟩, rfl⟩, Nat.le_refl _, by omega, by omega, condNF rfl hlen2⟩
theorem wheel_c {m : Mem} {n : Nat} {rows : List Row} {la : Option Addr} {lc : Nat} {x : Int} {Q : Value → Mem → Nat → Prop} (hx : Sl m n la lc (rows.flatMap encR)) (hr : Rows1 m n rows) (hsh : shortP rows = true)
    (hq : ∀ m' n' w s b M B k, Own11 m n m' n' w s b M B k → Fs m' n' → Q (pp w) m' n') : Wc Try.prog fLaw11wheel [.int .i64 x, .slice la rows.length lc] m n Q := by
  refine Wc_of mixed (cfg := xcfg) (fuel := 400) ?_
  rw [xLaw11wheel]
  have hp := pickM_range (x := x) (n := 64) (by omega) (by omega)
  obtain ⟨k, hk⟩ : ∃ k : Nat, (k : Int) = 1 + pickM x 64 := ⟨(1 + pickM x 64).toNat, by omega⟩
  have hw1 : IntKind.i64.wrap (1 + pickM x 64) = (k : Int) := by rw [wrap_id (by omega) (by omega)]; omega
  refine pick_c (by omega) ⟨_, rfl, Later.mk ?_⟩
  rw [hw1]
  refine Wc.after (New_c (k := k) (by omega) (by omega) fun m1 n1 w s b hw hl h1 h2 h3 _ hf => ⟨_, _, rfl, Later.mk ?_⟩)
  refine condNF rfl (condF rfl ?_)
  exact wheel_loop hx hr hsh hk (fun m' n' M B h1 h2 => hq m' n' w s b M B k h1 h2) rows [] m1 n1 [] (List.replicate k (-1)) rfl ⟨hw, inv_init k, by simp, hl, h2, h3, Nat.zero_le _⟩ hf
end Go.Proofs.Ytblijemhmpfihaa

namespace Go.Proofs.Ytblijemhmpfihaa
open Go Go.Ab Sp

theorem sets_c {m : Mem} {n w s b : Nat} {M B : List Int} {k : Nat} {m0 : Mem} {n0 : Nat} {pa qa : Option Addr} {pc qc : Nat} {Q : Value → Mem → Nat → Prop} (ho : Own11 m0 n0 m n w s b M B k) (hf : Fs m n) (hne : M ≠ []) (hp : Sl m n pa pc (M.map vi)) (hb : Sl m n qa qc (B.map vi))
    (hap : ∀ b' o s', pa = some ⟨b', o, s'⟩ → b' ≠ b ∧ b' ≠ s) (hbp : ∀ b' o s', qa = some ⟨b', o, s'⟩ → b' ≠ b ∧ b' ≠ s) (hl : M.length ≤ k) (hq : ∀ m' n', Q (.bool true) m' n') :
    Wc Try.prog fLaw11sets [pp w, .slice pa M.length pc, .slice qa B.length qc] m n Q := by
  refine Wc_of mixed (cfg := xcfg) (fuel := 400) ?_
  rw [xLaw11sets]
  obtain ⟨m1, n1, ho1, hf1, l1, s1, run1⟩ := ho.set hf hp ho.inv.asc hl hap
  rw [ho.inv.again hne] at ho1
  refine run1 _ ⟨_, rfl, Later.mk (condET rfl ?_)⟩
  obtain ⟨a', m2, n2, ow2, le2, _, run2⟩ := Buckets_c ho1.whl
  refine run2 _ ⟨_, _, _, rfl, Later.mk ?_⟩
  have hb1 : Sl m1 n1 qa qc (B.map vi) := hb.same l1 fun b' o s' e => s1 b' (hb.lt e) (hbp b' o s' e).2 (hbp b' o s' e).1
  refine sameI_c ow2.sl (hb1.le le2) (by have := ho.whl.big; omega) ⟨_, rfl, Later.mk ?_⟩
  simp only [beq_self_eq_true]
  exact hq _ _

@[reducible] noncomputable def frF1 (w : Nat) (ba : Option Addr) (bl bc : Nat) (ma : Option Addr) (ml mc : Nat) (low high : Int) (i : Int) (cnt k : Int) : AFrame :=
  { fn := fLaw11SpreadFair, nt := 98, slots := [(5, .bool true), (6, pp w), (7, .slice ba bl bc), (8, .slice ma ml mc), (9, .int .i64 low), (10, .int .i64 high), (11, .int .i64 i), (12, .int .i64 cnt), (13, .int .i64 k)], todo := pt Try.prog fLaw11SpreadFair [1, 1, 1, 1, 1, 1, 1, 1, 0, 1, 0, 0, 1, 0, 0, 1, 0, 1, 0, 0] }
@[reducible] noncomputable def frF0 (w : Nat) (ba : Option Addr) (bl bc : Nat) (ma : Option Addr) (ml mc : Nat) (low high : Int) (i : Int) : AFrame :=
  { fn := fLaw11SpreadFair, nt := 98, slots := [(5, .bool true), (6, pp w), (7, .slice ba bl bc), (8, .slice ma ml mc), (9, .int .i64 low), (10, .int .i64 high), (11, .int .i64 i)], todo := pt Try.prog fLaw11SpreadFair [1, 1, 1, 1, 1, 1, 1, 1, 0, 1, 0, 0] }
@[reducible] noncomputable def frF2 (w : Nat) (ba : Option Addr) (bl bc : Nat) (ma : Option Addr) (ml mc : Nat) (low high : Int) (k : Int) : AFrame :=
  { fn := fLaw11SpreadFair, nt := 98, slots := [(5, .bool true), (6, pp w), (7, .slice ba bl bc), (8, .slice ma ml mc), (9, .int .i64 low), (10, .int .i64 high), (14, .int .i64 k)], todo := pt Try.prog fLaw11SpreadFair [1, 1, 1, 1, 1, 1, 1, 1, 1, 0, 1, 0, 0] }

/-- What the law holds on to. -/
structure FairC (m : Mem) (n w s b : Nat) (M B : List Int) (k : Nat) (ba ma : Option Addr) : Prop where
  own : ∃ m0 n0, Own11 m0 n0 m n w s b M B k
  bk : Sl m n ba B.length (B.map vi)
  mm : Sl m n ma M.length (M.map vi)
  ab : ∀ b' o s', ba = some ⟨b', o, s'⟩ → b' ≠ b ∧ b' ≠ s
  am : ∀ b' o s', ma = some ⟨b', o, s'⟩ → b' ≠ b ∧ b' ≠ s
  ml : M.length ≤ k
theorem FairC.up {m : Mem} {n n' w s b : Nat} {M B : List Int} {k : Nat} {ba ma : Option Addr} (h : FairC m n w s b M B k ba ma) (l : n ≤ n') : FairC m n' w s b M B k ba ma := by
  obtain ⟨⟨m0, n0, ho⟩, h2, h3, h4, h5, h6⟩ := h
  exact ⟨⟨m0, n0, ho.more (Le.refl.up l)⟩, h2.same l fun _ _ _ _ => rfl, h3.same l fun _ _ _ _ => rfl, h4, h5, h6⟩

theorem fair_in {m : Mem} {w s b k : Nat} {M B : List Int} {ba ma : Option Addr} {low high : Int} {i : Nat} (hi : i < M.length) {Q : Value → Mem → Nat → Prop} {low' high' : Int}
    (hlow : low' = if ld B M[i] < low then ld B M[i] else low) (hhigh : high' = if ld B M[i] > high then ld B M[i] else high)
    (hq : ∀ n, FairC m n w s b M B k ba ma → W Try.prog (frF0 w ba B.length B.length ma M.length M.length low' high' ((i + 1 : Nat) : Int)) m n Q) :
    ∀ l pre c n, B = pre ++ l → (c : Nat) = pre.count M[i] → FairC m n w s b M B k ba ma → W Try.prog (frF1 w ba B.length B.length ma M.length M.length low high i (c : Int) (pre.length : Int)) m n Q := by
  intro l
  induction l with
  | nil =>
    intro pre c n h hc hC
    refine W_of mixed (cfg := xcfg) (fuel := 400) ?_
    rw [xLaw11SpreadFairk1]
    obtain ⟨m0, n0, ho⟩ := hC.own
    have hbig := ho.whl.big
    have hlen := ho.len
    have hml := hC.ml
    have hw := wrapN (k := i) (by omega)
    have hcl : (c : Int) = ld B M[i] := by simp only [List.append_nil] at h; subst h; simp [ld, hc]
    refine condDF (by simp [h]) (hC.mm.ldi hi (Load_c ho.whl ⟨_, rfl, Later.mk ?_⟩))
    have h0 : loadP B M[i] = ld B M[i] := by
      have := (ho.inv.asc.2 M[i] (List.getElem_mem _)).1
      unfold loadP; rw [if_neg (by omega)]
    refine condNF (by rw [h0, hcl]) ?_
    rw [hcl, hw]
    have := hq n hC
    rw [hlow, hhigh] at this
    exact this
  | cons y l ih =>
    intro pre c n h hc hC
    refine W_of mixed (cfg := xcfg) (fuel := 400) ?_
    rw [xLaw11SpreadFairk1]
    obtain ⟨m0, n0, ho⟩ := hC.own
    have hbig := ho.whl.big
    have hlt : pre.length < B.length := by simp [h]
    have hy : B[pre.length] = y := by simp [h]
    have hw := wrapN (k := pre.length) (by omega)
    have hcl : c ≤ B.length := by rw [hc, h, List.length_append]; have := List.count_le_length (a := M[i]) (l := pre); omega
    have hw2 := wrapN (k := c) (by omega)
    refine condDT (by omega) (hC.bk.ldi hlt (hC.mm.ldi hi ?_))
    rw [hy, hw, hw2]
    have hlen : (((pre ++ [y]).length : Nat) : Int) = ((pre.length + 1 : Nat) : Int) := by simp
    refine condE (fun e => ?_) fun e => ?_
    · have := ih (pre ++ [y]) (c + 1) (n + 9) (by simp [h]) (by simp [hc, e]) (hC.up (by omega))
      rw [hlen] at this; exact this
    · have := ih (pre ++ [y]) c (n + 9) (by simp [h]) (by simp [hc, e]) (hC.up (by omega))
      rw [hlen] at this; exact this
/-- Between the least and the greatest load. -/
theorem fair_out {m : Mem} {w s b k : Nat} {M B : List Int} {ba ma : Option Addr} {Q : Value → Mem → Nat → Prop}
    (hq : ∀ n low high, FairC m n w s b M B k ba ma → (∀ u, (∀ x ∈ M, u ≤ ld B x) → u ≤ (B.length : Int) → u ≤ low) → (∀ u, (∀ x ∈ M, ld B x ≤ u) → 0 ≤ u → high ≤ u) → (high : Int) ≤ B.length → 0 ≤ (high : Int) → 0 ≤ (low : Int) → (low : Int) ≤ B.length → W Try.prog (frF2 w ba B.length B.length ma M.length M.length low high 0) m n Q) :
    ∀ l pre n low high, M = pre ++ l → FairC m n w s b M B k ba ma → (∀ u, (∀ x ∈ M, u ≤ ld B x) → u ≤ (B.length : Int) → u ≤ low) → (∀ u, (∀ x ∈ M, ld B x ≤ u) → 0 ≤ u → high ≤ u) → high ≤ (B.length : Int) → 0 ≤ high → 0 ≤ low → low ≤ (B.length : Int) →
      W Try.prog (frF0 w ba B.length B.length ma M.length M.length low high (pre.length : Int)) m n Q := by
  intro l
  induction l with
  | nil =>
    intro pre n low high h hC h1 h2 h3 h4 h5 h6
    refine W_of mixed (cfg := xcfg) (fuel := 400) ?_
    rw [xLaw11SpreadFairk0]
    exact condDF (by simp [h]) (hq n low high hC h1 h2 h3 h4 h5 h6)
  | cons y l ih =>
    intro pre n low high h hC h1 h2 h3 h4 h5 h6
    refine W_of mixed (cfg := xcfg) (fuel := 400) ?_
    rw [xLaw11SpreadFairk0]
    have hlt : pre.length < M.length := by simp [h]
    have hy : M[pre.length] = y := by simp [h]
    have hym : y ∈ M := by rw [h]; simp
    have hln := ld_nonneg B y
    have hlb := ld_le B y
    refine condDT (by omega) ?_
    refine fair_in (s := s) (b := b) (k := k) (M := M) (low' := if ld B y < low then ld B y else low) (high' := if ld B y > high then ld B y else high) (i := pre.length) hlt (by rw [hy]) (by rw [hy]) (fun n' hC' => ?_) B [] 0 n rfl rfl hC
    have hlen : (((pre ++ [y]).length : Nat) : Int) = ((pre.length + 1 : Nat) : Int) := by simp
    have := ih (pre ++ [y]) n' (if ld B y < low then ld B y else low) (if ld B y > high then ld B y else high) (by simp [h]) hC' (fun u hu hu2 => by
      have := h1 u hu hu2
      have := hu y hym
      split <;> omega) (fun u hu hu2 => by
      have := h2 u hu hu2
      have := hu y hym
      split <;> omega) (by split <;> omega) (by split <;> omega) (by split <;> omega) (by split <;> omega)
    rw [hlen] at this
    exact this
theorem fair_end {m : Mem} {w s b k : Nat} {M B : List Int} {ba ma : Option Addr} {low high : Int} {Q : Value → Mem → Nat → Prop} (hne : M ≠ []) (hd : high - low ≤ 1) (hh : high ≤ 256 ∧ 0 ≤ high ∧ 0 ≤ low ∧ low ≤ 256) (hq : ∀ m' n', Q (.bool true) m' n') :
    ∀ l pre n, B = pre ++ l → FairC m n w s b M B k ba ma → W Try.prog (frF2 w ba B.length B.length ma M.length M.length low high (pre.length : Int)) m n Q := by
  intro l
  induction l with
  | nil =>
    intro pre n h hC
    refine W.fresh fun hf => W_of mixed (cfg := xcfg) (fuel := 400) ?_
    rw [xLaw11SpreadFairk2]
    obtain ⟨m0, n0, ho⟩ := hC.own
    have hw : IntKind.i64.wrap (high - low) = high - low := wrap_id (by omega) (by omega)
    rw [hw]
    exact condDF (by simp [h]) (condT rfl (condDT hd (sets_c ho hf hne hC.mm hC.bk hC.am hC.ab hC.ml fun _ _ => ⟨_, rfl, Later.mk (hq _ _)⟩)))
  | cons y l ih =>
    intro pre n h hC
    refine W_of mixed (cfg := xcfg) (fuel := 400) ?_
    rw [xLaw11SpreadFairk2]
    obtain ⟨m0, n0, ho⟩ := hC.own
    have hbig := ho.whl.big
    have hlen := ho.len
    have hml := hC.ml
    have hlt : pre.length < B.length := by simp [h]
    have hy : B[pre.length] = y := by simp [h]
    have hw := wrapN (k := pre.length) (by omega)
    have hym : y ∈ M := (ho.inv.all hne).1 y (by rw [h]; simp)
    refine condDT (by omega) (hC.bk.ldi hlt (has_c hC.mm (by omega) ⟨_, rfl, Later.mk ?_⟩))
    rw [hy]
    have hc : M.contains y = true := by simpa using hym
    rw [hc, hw]
    have := ih (pre ++ [y]) n (by simp [h]) hC
    have hl2 : (((pre ++ [y]).length : Nat) : Int) = ((pre.length + 1 : Nat) : Int) := by simp
    rw [hl2] at this
    exact condF rfl this
theorem fair_law {m : Mem} {n : Nat} {rows : List Row} {la : Option Addr} {lc : Nat} {x : Int} {Q : Value → Mem → Nat → Prop} (hl : rows.length ≤ 9223372036854775807) (hx : Sl m n la lc (rows.flatMap encR)) (hr : Rows1 m n rows) (hq : ∀ m' n', Q (.bool true) m' n') :
    Wc Try.prog fLaw11SpreadFair [.int .i64 x, .slice la rows.length lc] m n Q := by
  refine Wc_of mixed (cfg := xcfg) (fuel := 400) ?_
  rw [xLaw11SpreadFair]
  refine known_c ⟨_, rfl, Later.mk (short_c hx hl ⟨_, rfl, Later.mk ?_⟩)⟩
  refine condB (fun _ => hq _ _) fun hs => ?_
  have hsh : shortP rows = true := by simpa using hs
  refine wheel_c hx hr hsh fun m1 n1 w s b M B k ho hf => ⟨_, rfl, Later.mk (condF rfl ?_)⟩
  obtain ⟨ba, m2, n2, ow2, le2, fs2, run2⟩ := Buckets_c ho.whl
  refine run2 _ ⟨_, _, _, rfl, Later.mk ?_⟩
  have ho2 := ho.more le2
  obtain ⟨ma, m3, n3, ow3, le3, fs3, run3⟩ := Members_c ho2.whl
  refine run3 _ ⟨_, _, _, rfl, Later.mk ?_⟩
  have ho3 := ho2.more le3
  refine condE (fun _ => hq _ _) fun hne => ?_
  have hneM : M ≠ [] := by rintro rfl; exact hne rfl
  have hb1 := ho.whl.ls
  have hb2 := ho.whl.cellb.1
  have l2 := le2.le
  have l3 := le3.le
  have hbig := ho.whl.big
  have hC : FairC m3 n3 w s b M B k ba ma := ⟨⟨_, _, ho3⟩, (ow2.le le3).sl, ow3.sl, fun b' o s' e => by have := (ow2.bnd e).1; omega, fun b' o s' e => by have := (ow3.bnd e).1; omega, ho.ml⟩
  refine fair_out (m := m3) (s := s) (b := b) (k := k) (fun n' low high hC' g1 g2 g3 g4 g5 g6 => ?_) M [] n3 (B.length : Int) 0 rfl hC (fun u _ h => h) (fun u _ h => h) (by omega) (by omega) (by omega) (by omega)
  refine fair_end hneM ?_ (by omega) hq B [] n' rfl hC'
  have hev := (ho.inv.all hneM).2
  have p1 := g1 (ld B (least M B)) (fun x hx => least_le B hx) (ld_le B _)
  have p2 := g2 (ld B (most M B)) (fun x hx => most_ge B hx) (ld_nonneg B _)
  have p3 := (even_gap hneM).1 hev
  unfold gap at p3
  omega
end Go.Proofs.Ytblijemhmpfihaa

namespace Go.Proofs.Ytblijemhmpfihaa
open Go Go.Ab Sp
theorem undInt : Try.prog.underlying tInt = some (.int .i64) := by kernel_rfl
theorem undLint : Try.prog.underlying tLint = some (.slice tInt) := by kernel_rfl
theorem undLLint : Try.prog.underlying tLLint = some (.slice tLint) := by kernel_rfl
theorem ints_of {m : Mem} {f : Nat} {es : List (List Value)} (h : ∀ x ∈ es, x.length = Try.prog.cellsOf tInt ∧ TyC Try.prog m f tInt x) : ∃ xs : List Int, es.flatten = xs.map vi ∧ es.length = xs.length :=
  rows_one (f := vi) fun x hx => by obtain ⟨v, e, _⟩ := TyC.int undInt (h x hx).2; exact ⟨v, e⟩
theorem row_of {m : Mem} {n : Nat} (hf : ∀ i, n ≤ i → m.get i = none) {f : Nat} {cs : List Value} (h : TyC Try.prog m f tLint cs) : ∃ r : Row, cs = encR r ∧ Sl m n r.a r.c (r.xs.map vi) := by
  obtain ⟨id, len, cap, nl, es, f, rfl, h1, h2, h3, h4, h5, h6⟩ := TyC.slice undLint h
  obtain ⟨xs, e1, e2⟩ := ints_of h6
  rw [e1] at h4
  obtain rfl : len = xs.length := by omega
  exact ⟨⟨some ⟨id, 0, none⟩, cap, xs⟩, rfl, Sl.in_ h4 (lt_of_get hf h4) fun e => by rw [← e1, h5 e]; rfl⟩
theorem rows_of {m : Mem} {n : Nat} (hf : ∀ i, n ≤ i → m.get i = none) {f : Nat} : ∀ {es : List (List Value)}, (∀ x ∈ es, TyC Try.prog m f tLint x) → ∃ rows : List Row, es.flatten = rows.flatMap encR ∧ es.length = rows.length ∧ Rows1 m n rows
  | [], _ => ⟨[], rfl, rfl, fun _ h => nomatch h⟩
  | x :: es, h => by
    obtain ⟨r, rfl, hr⟩ := row_of hf (h x (List.mem_cons_self ..))
    obtain ⟨rows, h1, h2, h3⟩ := rows_of hf (es := es) fun y hy => h y (List.mem_cons_of_mem _ hy)
    refine ⟨r :: rows, by simp [h1], by simp [h2], fun q hq => ?_⟩
    rcases List.mem_cons.1 hq with rfl | hq
    · exact hr
    · exact h3 q hq
theorem lists_of {m : Mem} {n : Nat} (hf : ∀ i, n ≤ i → m.get i = none) {v : Value} (h : TyV Try.prog m tLLint v) : ∃ la rows lc, v = .slice la (rows : List Row).length lc ∧ Sl m n la lc (rows.flatMap encR) ∧ Rows1 m n rows ∧ rows.length ≤ 9223372036854775807 := by
  obtain ⟨id, len, cap, nl, es, f, rfl, h1, h2, h3, h4, h5, h6⟩ := TyV.slice undLLint h
  obtain ⟨rows, e1, e2, e3⟩ := rows_of hf fun x hx => (h6 x hx).2
  rw [e1] at h4
  obtain rfl : len = rows.length := by omega
  exact ⟨_, rows, cap, rfl, (Sl.in_ h4 (lt_of_get hf h4) fun e => by rw [← e1, h5 e]; rfl), e3, by unfold maxLen at h2; omega⟩
theorem nums_of {m : Mem} {n : Nat} (hf : ∀ i, n ≤ i → m.get i = none) {v : Value} (h : TyV Try.prog m tLint v) : ∃ a xs c, v = .slice a (xs : List Int).length c ∧ Sl m n a c (xs.map vi) := by
  obtain ⟨id, len, cap, nl, es, f, rfl, h1, h2, h3, h4, h5, h6⟩ := TyV.slice undLint h
  obtain ⟨xs, e1, e2⟩ := ints_of h6
  rw [e1] at h4
  obtain rfl : len = xs.length := by omega
  exact ⟨_, xs, cap, rfl, Sl.in_ h4 (lt_of_get hf h4) fun e => by rw [← e1, h5 e]; rfl⟩
set_option maxRecDepth 1000000 in
theorem spreadFair_main (m : Mem) (n : Nat) (ars : List Value) (hl : ars.length = ([3, 35] : List TypeId).length) (ht : ∀ (j : Nat) t a, ([3, 35] : List TypeId)[j]? = some t → ars[j]? = some a → TyV Try.prog m t a)
    (_ : ∀ i o, m.get i = some o → own o = false) (hfresh : ∀ i, n ≤ i → m.get i = none) : Wc Try.prog fLaw11SpreadFair ars m n fun v _ _ => v = .bool true := by
  match ars, hl with
  | [a, b], _ =>
    have ha : TyV Try.prog m tInt a := ht 0 3 a (by simp) (by simp)
    have hb : TyV Try.prog m tLLint b := ht 1 35 b (by simp) (by simp)
    obtain ⟨x, rfl, _⟩ := TyV.int undInt ha
    obtain ⟨la, rows, lc, rfl, h1, h2, h3⟩ := lists_of hfresh hb
    exact fair_law h3 h1 h2 fun _ _ => rfl
end Go.Proofs.Ytblijemhmpfihaa

namespace Go.Proofs.Ytblijemhmpfihaa
open Go Go.Ab Sp

/-- The reference's wheel. -/
structure RV (m : Mem) (n w b : Nat) (M B : List Int) (ma : Option Addr) (mc o : Nat) (sp : Option Nat) : Prop where
  get : m.get w = some (.cells none tRef11Wheel 2 [.slice ma M.length mc, .slice (some ⟨b, o, sp⟩) B.length B.length])
  lw : w < n
  mem : Sl m n ma mc (M.map vi)
  ow : Ow m 0 n tInt 1 (some ⟨b, o, sp⟩) B.length B.length (B.map vi)
  mb : ∀ o s, ma ≠ some ⟨b, o, s⟩
  lm : M.length ≤ 1000
  big : B.length ≤ 256
theorem RV.apart {m : Mem} {n w b : Nat} {M B : List Int} {ma : Option Addr} {mc o : Nat} {sp : Option Nat} (h : RV m n w b M B ma mc o sp) : w ≠ b ∧ b < n := by
  obtain ⟨h0, h1, h2⟩ := h.ow
  have hg := h.get
  rcases h2 with ⟨h2, _⟩ | ⟨b', o', s', full, g1, g2, g3, g4, _⟩
  · cases h2
  · cases g1
    refine ⟨?_, g3⟩
    rintro rfl
    rw [hg] at g4; simp only [Option.some.injEq, AObj.cells.injEq] at g4; exact absurd g4.2.1 (by decide)
theorem RV.le {m m' : Mem} {n n' w b : Nat} {M B : List Int} {ma : Option Addr} {mc o : Nat} {sp : Option Nat} (h : RV m n w b M B ma mc o sp) (k : Le m n m' n') : RV m' n' w b M B ma mc o sp :=
  ⟨k.get h.lw h.get, by have := h.lw; have := k.le; omega, h.mem.le k, h.ow.le k, h.mb, h.lm, h.big⟩
theorem RV.up {m : Mem} {n n' w b : Nat} {M B : List Int} {ma : Option Addr} {mc o : Nat} {sp : Option Nat} (h : RV m n w b M B ma mc o sp) (k : n ≤ n') : RV m n' w b M B ma mc o sp := h.le (Le.refl.up k)
/-- A write to a bucket. -/
theorem RV.put {m : Mem} {n w b : Nat} {M B : List Int} {ma : Option Addr} {mc o : Nat} {sp : Option Nat} (h : RV m n w b M B ma mc o sp) {i : Nat} (hi : i < B.length) (x : Int) :
    ∃ m', liveAt m b = true ∧ (sp ≠ none → 0 < B.length) ∧ storeCs m b (offOf o sp + i * 1) [vi x] = some m' ∧ RV m' n w b M (B.set i x) ma mc o sp ∧ ∀ j, j ≠ b → m'.get j = m.get j := by
  obtain ⟨b', o', s', m1, e, _, _, l1, l2, l3, l4, l5⟩ := h.ow.store (j := i) (vs := [vi x]) (by simp; omega) (by simp [cellOk]) (by simp)
  cases e
  simp only [List.length_singleton] at l4
  rw [map_take_drop_set vi B i x hi] at l4
  have hl : (B.set i x).length = B.length := by simp
  refine ⟨m1, l1, l2, by simpa using l3, ⟨?_, h.lw, ?_, ?_, h.mb, h.lm, by rw [hl]; exact h.big⟩, l5⟩
  · rw [hl]; exact (l5 w h.apart.1).trans h.get
  · exact h.mem.same (Nat.le_refl _) fun b' o' s' e => l5 b' fun e' => by subst e'; exact h.mb _ _ e
  · rw [hl]; exact l4

theorem rload_loop {m : Mem} {n w b : Nat} {M B : List Int} {ma : Option Addr} {mc o : Nat} {sp : Option Nat} {x : Int} (h : RV m n w b M B ma mc o sp) {Q : Value → Mem → Nat → Prop} (hq : Q (vi (loadP B x)) m n) :
    ∀ l pre k, B = pre ++ l → (0 ≤ x → (k : Nat) = pre.count x) → (x < 0 → k = 0) → W Try.prog { fn := fRef11WheelLoad, nt := 32, slots := [(0, pp w), (1, vi x), (5, .int .i64 (k : Nat)), (6, .int .i64 pre.length)], todo := pt Try.prog fRef11WheelLoad [1, 1, 0, 1, 0, 0] } m n Q := by
  have hbig := h.big
  intro l
  induction l with
  | nil =>
    intro pre k hB h1 h2
    refine W_of mixed (cfg := xcfg) (fuel := 400) ?_
    rw [xRef11WheelLoadk0]
    refine ⟨isC_of h.get, _, _, _, rd_of h.get rfl, condDF (by simp [hB]) ?_⟩
    simp only [List.append_nil] at hB
    subst hB
    have : loadP B x = k := by
      unfold loadP ld
      split
      · rw [h2 (by omega)]; rfl
      · rw [h1 (by omega)]
    rw [this] at hq
    exact hq
  | cons y l ih =>
    intro pre k hB h1 h2
    refine W_of mixed (cfg := xcfg) (fuel := 400) ?_
    rw [xRef11WheelLoadk0]
    have hlt : pre.length < B.length := by simp [hB]
    have hy : B[pre.length] = y := by simp [hB]
    have hw := wrapN (k := pre.length) (by omega)
    have hlen : (((pre ++ [y]).length : Nat) : Int) = ((pre.length + 1 : Nat) : Int) := by simp
    have nxt := fun k' a b => ih (pre ++ [y]) k' (by simp [hB]) a b
    rw [hlen, ← hw] at nxt
    refine ⟨isC_of h.get, _, _, _, rd_of h.get rfl, condDT (by omega) (condD (fun h0 => ?_) fun h0 => nxt k (fun h' => by omega) h2)⟩
    have hkl : k ≤ B.length := by rw [h1 h0, hB, List.length_append]; have := List.count_le_length (a := x) (l := pre); omega
    have hw2 := wrapN (k := k) (by omega)
    refine ⟨isC_of h.get, _, _, _, rd_of h.get rfl, h.ow.sl.ldi hlt ?_⟩
    rw [hy, hw2]
    refine condE (fun e => ?_) fun e => ?_
    · exact nxt (k + 1) (fun _ => by simp [h1 h0, e]) (fun h' => by omega)
    · exact nxt k (fun _ => by simp [h1 h0, e]) h2
theorem rload_c {m : Mem} {n w b : Nat} {M B : List Int} {ma : Option Addr} {mc o : Nat} {sp : Option Nat} {x : Int} (h : RV m n w b M B ma mc o sp) {Q : Value → Mem → Nat → Prop} (hq : Q (vi (loadP B x)) m n) : Wc Try.prog fRef11WheelLoad [pp w, vi x] m n Q := by
  refine Wc_of mixed (cfg := xcfg) (fuel := 400) ?_
  rw [xRef11WheelLoad]
  exact rload_loop h hq B [] 0 rfl (fun _ => rfl) (fun _ => rfl)

theorem loadP_pos {B : List Int} {x : Int} (h : 0 ≤ x) : loadP B x = ld B x := by unfold loadP; rw [if_neg (by omega)]
theorem rleast_loop {m : Mem} {n w b : Nat} {M B : List Int} {ma : Option Addr} {mc o : Nat} {sp : Option Nat} (h : RV m n w b M B ma mc o sp) (hM : ∀ x ∈ M, 0 ≤ x) {Q : Value → Mem → Nat → Prop} :
    ∀ l pre out, M = pre ++ l → 0 ≤ out → Q (vi (minF B out l)) m n → W Try.prog { fn := fRef11Wheelleast, nt := 41, slots := [(0, pp w), (3, vi out), (4, .int .i64 pre.length)], todo := pt Try.prog fRef11Wheelleast [1, 1, 0, 1, 0, 0] } m n Q := by
  have hlm := h.lm
  intro l
  induction l with
  | nil =>
    intro pre out hB ho hq
    refine W_of mixed (cfg := xcfg) (fuel := 400) ?_
    rw [xRef11Wheelleastk0]
    exact ⟨isC_of h.get, _, _, _, rd_of h.get rfl, condDF (by simp [hB]) hq⟩
  | cons y l ih =>
    intro pre out hB ho hq
    refine W_of mixed (cfg := xcfg) (fuel := 400) ?_
    rw [xRef11Wheelleastk0]
    have hlt : pre.length < M.length := by simp [hB]
    have hy : M[pre.length] = y := by simp [hB]
    have hy0 : 0 ≤ y := hM y (by rw [hB]; simp)
    have hw := wrapN (k := pre.length) (by omega)
    have hlen : (((pre ++ [y]).length : Nat) : Int) = ((pre.length + 1 : Nat) : Int) := by simp
    have nxt := fun o' h0 hq' => ih (pre ++ [y]) o' (by simp [hB]) h0 hq'
    rw [hlen, ← hw] at nxt
    refine ⟨isC_of h.get, _, _, _, rd_of h.get rfl, condDT (by omega) ⟨isC_of h.get, _, _, _, rd_of h.get rfl, h.mem.ldi hlt ?_⟩⟩
    rw [hy]
    refine rload_c h ⟨_, rfl, Later.mk (rload_c h ⟨_, rfl, Later.mk ?_⟩)⟩
    rw [loadP_pos hy0, loadP_pos ho]
    refine condD (fun e => ?_) fun e => ?_
    · refine ⟨isC_of h.get, _, _, _, rd_of h.get rfl, h.mem.ldi hlt ?_⟩
      rw [hy]
      exact nxt y hy0 (by rw [minF, if_pos e] at hq; exact hq)
    · exact nxt out ho (by rw [minF, if_neg e] at hq; exact hq)
theorem rleast_c {m : Mem} {n w b : Nat} {M B : List Int} {ma : Option Addr} {mc o : Nat} {sp : Option Nat} (h : RV m n w b M B ma mc o sp) (hM : ∀ x ∈ M, 0 ≤ x) (hne : M ≠ []) {Q : Value → Mem → Nat → Prop} (hq : Q (vi (least M B)) m n) : Wc Try.prog fRef11Wheelleast [pp w] m n Q := by
  refine Wc_of mixed (cfg := xcfg) (fuel := 400) ?_
  rw [xRef11Wheelleast]
  cases M with
  | nil => exact (hne rfl).elim
  | cons x M =>
    refine ⟨isC_of h.get, _, _, _, rd_of h.get rfl, ?_⟩
    have := h.mem.ldi (i := 0) (by simp) (K := fun x3 => W Try.prog { fn := fRef11Wheelleast, nt := 41, slots := [(0, pp w), (3, vi x3), (4, .int .i64 0)], todo := pt Try.prog fRef11Wheelleast [1, 1, 0, 1, 0, 0] } m n Q)
      (rleast_loop h hM (x :: M) [] x rfl (hM x (List.mem_cons_self ..)) (by rw [minF, if_neg (by omega)]; exact hq))
    simpa using this
theorem rmost_loop {m : Mem} {n w b : Nat} {M B : List Int} {ma : Option Addr} {mc o : Nat} {sp : Option Nat} (h : RV m n w b M B ma mc o sp) (hM : ∀ x ∈ M, 0 ≤ x) {Q : Value → Mem → Nat → Prop} :
    ∀ l pre out, M = pre ++ l → 0 ≤ out → Q (vi (maxG B out l)) m n → W Try.prog { fn := fRef11Wheelmost, nt := 41, slots := [(0, pp w), (3, vi out), (4, .int .i64 pre.length)], todo := pt Try.prog fRef11Wheelmost [1, 1, 0, 1, 0, 0] } m n Q := by
  have hlm := h.lm
  intro l
  induction l with
  | nil =>
    intro pre out hB ho hq
    refine W_of mixed (cfg := xcfg) (fuel := 400) ?_
    rw [xRef11Wheelmostk0]
    exact ⟨isC_of h.get, _, _, _, rd_of h.get rfl, condDF (by simp [hB]) hq⟩
  | cons y l ih =>
    intro pre out hB ho hq
    refine W_of mixed (cfg := xcfg) (fuel := 400) ?_
    rw [xRef11Wheelmostk0]
    have hlt : pre.length < M.length := by simp [hB]
    have hy : M[pre.length] = y := by simp [hB]
    have hy0 : 0 ≤ y := hM y (by rw [hB]; simp)
    have hw := wrapN (k := pre.length) (by omega)
    have hlen : (((pre ++ [y]).length : Nat) : Int) = ((pre.length + 1 : Nat) : Int) := by simp
    have nxt := fun o' h0 hq' => ih (pre ++ [y]) o' (by simp [hB]) h0 hq'
    rw [hlen, ← hw] at nxt
    refine ⟨isC_of h.get, _, _, _, rd_of h.get rfl, condDT (by omega) ⟨isC_of h.get, _, _, _, rd_of h.get rfl, h.mem.ldi hlt ?_⟩⟩
    rw [hy]
    refine rload_c h ⟨_, rfl, Later.mk (rload_c h ⟨_, rfl, Later.mk ?_⟩)⟩
    rw [loadP_pos hy0, loadP_pos ho]
    refine condD (fun e => ?_) fun e => ?_
    · refine ⟨isC_of h.get, _, _, _, rd_of h.get rfl, h.mem.ldi hlt ?_⟩
      rw [hy]
      exact nxt y hy0 (by rw [maxG, if_pos e] at hq; exact hq)
    · exact nxt out ho (by rw [maxG, if_neg e] at hq; exact hq)
theorem rmost_c {m : Mem} {n w b : Nat} {M B : List Int} {ma : Option Addr} {mc o : Nat} {sp : Option Nat} (h : RV m n w b M B ma mc o sp) (hM : ∀ x ∈ M, 0 ≤ x) (hne : M ≠ []) {Q : Value → Mem → Nat → Prop} (hq : Q (vi (most M B)) m n) : Wc Try.prog fRef11Wheelmost [pp w] m n Q := by
  refine Wc_of mixed (cfg := xcfg) (fuel := 400) ?_
  rw [xRef11Wheelmost]
  cases M with
  | nil => exact (hne rfl).elim
  | cons x M =>
    refine ⟨isC_of h.get, _, _, _, rd_of h.get rfl, ?_⟩
    have := h.mem.ldi (i := 0) (by simp) (K := fun x3 => W Try.prog { fn := fRef11Wheelmost, nt := 41, slots := [(0, pp w), (3, vi x3), (4, .int .i64 0)], todo := pt Try.prog fRef11Wheelmost [1, 1, 0, 1, 0, 0] } m n Q)
      (rmost_loop h hM (x :: M) [] x rfl (hM x (List.mem_cons_self ..)) (by rw [maxG, if_pos (by omega)]; exact hq))
    simpa using this

theorem ris_loop {m : Mem} {n : Nat} {X : List Int} {xa : Option Addr} {xc : Nat} {v : Int} {Q : Value → Mem → Nat → Prop} (hx : Sl m n xa xc (X.map vi)) (hl : X.length ≤ 1000) :
    ∀ l pre, X = pre ++ l → Q (.bool (l.contains v)) m n → W Try.prog { fn := fRef11is, nt := 18, slots := [(0, .slice xa X.length xc), (1, vi v), (5, .int .i64 pre.length)], todo := pt Try.prog fRef11is [1, 0, 1, 0, 0] } m n Q := by
  intro l
  induction l with
  | nil =>
    intro pre h hq
    refine W_of mixed (cfg := xcfg) (fuel := 400) ?_
    rw [xRef11isk0]
    exact condDF (by simp [h]) hq
  | cons y l ih =>
    intro pre h hq
    refine W_of mixed (cfg := xcfg) (fuel := 400) ?_
    rw [xRef11isk0]
    have hlt : pre.length < X.length := by simp [h]
    have hy : X[pre.length] = y := by simp [h]
    have hw := wrapN (k := pre.length) (by omega)
    have hlen : (((pre ++ [y]).length : Nat) : Int) = ((pre.length + 1 : Nat) : Int) := by simp
    refine condDT (by omega) (hx.ldi hlt ?_)
    rw [hy]
    refine condE (fun e => ?_) fun e => ?_
    · have : (y :: l).contains v = true := by simp [e]
      rw [this] at hq; exact hq
    · have nxt := ih (pre ++ [y]) (by simp [h]) (by
        have : (y :: l).contains v = l.contains v := by simp [Ne.symm e]
        rw [this] at hq; exact hq)
      rw [hlen, ← hw] at nxt
      exact nxt
theorem ris_c {m : Mem} {n : Nat} {X : List Int} {xa : Option Addr} {xc : Nat} {v : Int} {Q : Value → Mem → Nat → Prop} (hx : Sl m n xa xc (X.map vi)) (hl : X.length ≤ 1000) (hq : Q (.bool (X.contains v)) m n) : Wc Try.prog fRef11is [.slice xa X.length xc, vi v] m n Q := by
  refine Wc_of mixed (cfg := xcfg) (fuel := 400) ?_
  rw [xRef11is]
  exact ris_loop hx hl X [] rfl hq
theorem rpick_c {m : Mem} {n w b : Nat} {M B : List Int} {ma : Option Addr} {mc o : Nat} {sp : Option Nat} {hash : Int} (h : RV m n w b M B ma mc o sp) (hp : 0 < B.length) (h0 : 0 ≤ hash) {Q : Value → Mem → Nat → Prop} (hq : Q (.tuple ⟨[vi (pickP M B hash).1, .bool (pickP M B hash).2]⟩) m n) : Wc Try.prog fRef11WheelPick [pp w, .int .u64 hash] m n Q := by
  refine Wc.scalar ?_ rfl hq
  refine Wc_of mixed (cfg := xcfg) (fuel := 400) ?_
  rw [xRef11WheelPick]
  have hbig := h.big
  have hw := wrapU (k := B.length) (by omega)
  refine ⟨isC_of h.get, _, _, _, rd_of h.get rfl, ?_⟩
  refine condE (fun e => ?_) fun e => ?_
  · have hM : M = [] := List.length_eq_zero_iff.1 (by omega)
    exact ⟨by simp [pickP, hM], Le.refl⟩
  · have hM : M ≠ [] := by rintro rfl; simp at e
    refine ⟨isC_of h.get, _, _, _, rd_of h.get rfl, isC_of h.get, _, _, _, rd_of h.get rfl, ?_⟩
    rw [hw]
    have t1 := Int.tmod_lt_of_pos hash (b := (B.length : Int)) (by omega)
    have t2 := Int.tmod_nonneg (B.length : Int) h0
    have hw2 : IntKind.i64.wrap (hash.tmod B.length) = hash.tmod B.length := wrap_id (by omega) (by omega)
    rw [hw2]
    refine ⟨by omega, ?_⟩
    have hi : (hash.tmod B.length).toNat < B.length := by omega
    have := h.ow.sl.ldi (i := (hash.tmod B.length).toNat) hi (K := fun x => Value.tuple ⟨[vi x, .bool true]⟩ = Value.tuple ⟨[vi (pickP M B hash).1, .bool (pickP M B hash).2]⟩ ∧ Le m n m (n + 17)) ⟨by simp [pickP, hM, List.getD, hi], Le.refl.up (by omega)⟩
    have e1 : (((hash.tmod B.length).toNat : Nat) : Int) = hash.tmod B.length := by omega
    rw [e1] at this
    exact this
end Go.Proofs.Ytblijemhmpfihaa

namespace Go.Proofs.Ytblijemhmpfihaa
open Go Go.Ab Sp

/-- The block of the members of the reference's wheel. -/
def rBlk (m : Mem) (w x : Nat) : Prop := ∃ o s' l c r, m.get w = some (.cells none tRef11Wheel 2 [.slice (some ⟨x, o, s'⟩) l c, r])
theorem rBlk.of {m m' : Mem} {w x : Nat} (h : rBlk m' w x) (e : m'.get w = m.get w) : rBlk m w x := by
  obtain ⟨o, s', l, c, r, h⟩ := h
  exact ⟨o, s', l, c, r, e ▸ h⟩
/-- What a change of the reference's wheel leaves. -/
structure RP (m0 : Mem) (n0 w b : Nat) (m : Mem) (n : Nat) : Prop where
  le : n0 ≤ n
  same : ∀ i, i < n0 → i ≠ w → i ≠ b → m.get i = m0.get i
  fs : Fs m0 n0 → Fs m n
  old : ∀ x, rBlk m w x → x < n0 → rBlk m0 w x
theorem RP.refl {m : Mem} {n w b : Nat} : RP m n w b m n := ⟨Nat.le_refl _, fun _ _ _ _ => rfl, fun h => h, fun _ h _ => h⟩
theorem RP.up {m0 m : Mem} {n0 n n' w b : Nat} (h : RP m0 n0 w b m n) (k : n ≤ n') : RP m0 n0 w b m n' := ⟨Nat.le_trans h.le k, h.same, fun hf => (h.fs hf).up k, h.old⟩
theorem RP.put {m0 m m' : Mem} {n0 n w b : Nat} (h : RP m0 n0 w b m n) (hw : w ≠ b) (hb : b < n) (hs : ∀ j, j ≠ b → m'.get j = m.get j) : RP m0 n0 w b m' n :=
  ⟨h.le, fun i hi h1 h2 => (hs i h2).trans (h.same i hi h1 h2), fun hf i hi => (hs i (by omega)).trans (h.fs hf i hi), fun x hx hlx => h.old x (hx.of (hs w hw)) hlx⟩

def lastIx (a : Int) : Nat → Nat → List Int → Nat
  | t, _, [] => t
  | t, i, y :: l => lastIx a (if y = a then i else t) (i + 1) l
theorem lastIx_none {a : Int} : ∀ (l : List Int) (t i : Nat), a ∉ l → lastIx a t i l = t
  | [], _, _, _ => rfl
  | y :: l, t, i, h => by
    have : y ≠ a := by rintro rfl; exact h (List.mem_cons_self ..)
    rw [lastIx, if_neg this]
    exact lastIx_none l t _ fun h' => h (List.mem_cons_of_mem _ h')
theorem lastIx_split {a : Int} {C : List Int} (hC : a ∉ C) : ∀ (A : List Int) (t i : Nat), lastIx a t i (A ++ a :: C) = i + A.length
  | [], t, i => by rw [List.nil_append, lastIx, if_pos rfl, lastIx_none _ _ _ hC]; simp
  | y :: A, t, i => by rw [List.cons_append, lastIx, lastIx_split hC A]; simp only [List.length_cons]; omega

@[reducible] noncomputable def frR3 (w : Nat) : AFrame :=
  { fn := fRef11WheelSet, nt := 151, slots := [(0, pp w)], todo := pt Try.prog fRef11WheelSet [1, 1, 1, 1, 1, 1, 1, 0, 0, 0] }
theorem rlast_loop {m : Mem} {n w b : Nat} {M B : List Int} {ma : Option Addr} {mc o : Nat} {sp : Option Nat} {fr to : Int} (h : RV m n w b M B ma mc o sp) (hp : 0 < B.length) {m' : Mem} (ha : lastIx fr 0 0 B < B.length)
    (h1 : liveAt m b = true) (h2 : sp ≠ none → 0 < B.length) (h3 : storeCs m b (offOf o sp + lastIx fr 0 0 B * 1) [vi to] = some m') {Q : Value → Mem → Nat → Prop} (hq : W Try.prog (frR3 w) m' n Q) :
    ∀ l pre (t : Nat), B = pre ++ l → lastIx fr t pre.length l = lastIx fr 0 0 B → W Try.prog { fn := fRef11WheelSet, nt := 151, slots := [(0, pp w), (8, vi fr), (9, vi to), (10, .int .i64 t), (11, .int .i64 pre.length)], todo := pt Try.prog fRef11WheelSet [1, 1, 1, 1, 1, 1, 1, 0, 0, 0, 1, 0, 1, 1, 0, 1, 0, 0] } m n Q := by
  have hbig := h.big
  intro l
  induction l with
  | nil =>
    intro pre t hB ht
    refine W_of mixed (cfg := xcfg) (fuel := 400) ?_
    rw [xRef11WheelSetk4]
    rw [lastIx] at ht
    refine ⟨isC_of h.get, _, _, _, rd_of h.get rfl, condDF (by simp [hB]) ⟨isC_of h.get, _, _, _, rd_of h.get rfl, ?_⟩⟩
    rw [ht]
    exact ⟨⟨by omega, by omega, h1, h2⟩, m', by simpa using h3, hq⟩
  | cons y l ih =>
    intro pre t hB ht
    refine W_of mixed (cfg := xcfg) (fuel := 400) ?_
    rw [xRef11WheelSetk4]
    have hlt : pre.length < B.length := by simp [hB]
    have hy : B[pre.length] = y := by simp [hB]
    have hw := wrapN (k := pre.length) (by omega)
    have hlen : (((pre ++ [y]).length : Nat) : Int) = ((pre.length + 1 : Nat) : Int) := by simp
    have nxt := fun t' a => ih (pre ++ [y]) t' (by simp [hB]) a
    rw [hlen, ← hw] at nxt
    rw [lastIx] at ht
    refine ⟨isC_of h.get, _, _, _, rd_of h.get rfl, condDT (by omega) ⟨isC_of h.get, _, _, _, rd_of h.get rfl, h.ow.sl.ldi hlt ?_⟩⟩
    rw [hy]
    refine condE (fun e => ?_) fun e => ?_
    · rw [if_pos e] at ht
      exact nxt pre.length (by rw [← ht]; simp)
    · rw [if_neg e] at ht
      exact nxt t (by rw [← ht]; simp)

theorem rreb {m0 : Mem} {n0 w b : Nat} {M : List Int} {ma : Option Addr} {mc o : Nat} {sp : Option Nat} (hM : M.Nodup) (hpos : ∀ x ∈ M, 0 ≤ x) (hne : M ≠ []) : ∀ (f : Nat) (m : Mem) (n : Nat) (B : List Int), sq B M < f → 0 < B.length → RV m n w b M B ma mc o sp → RP m0 n0 w b m n →
    ∃ m' n', RV m' n' w b M (rebal M f B) ma mc o sp ∧ RP m0 n0 w b m' n' ∧ ∀ Q : Value → Mem → Nat → Prop, Q (vi 0) m' n' → W Try.prog (frR3 w) m n Q
  | 0, m, n, B, hf, _, _, _ => by omega
  | f + 1, m, n, B, hf, hp, h, hr => by
    have hbig := h.big
    have dw := diff_wrap (B := B) (by omega) (most M B) (least M B)
    have p1 := hpos _ (most_mem B hne)
    have p2 := hpos _ (least_mem B hne)
    by_cases hg : gap M B > 1
    · obtain ⟨A, C, hB, hC⟩ := last_split (gap_mem hg)
      have hst : stepB M B = A ++ least M B :: C := by
        unfold stepB
        have := replLast_split (b := least M B) hC A
        rw [← hB] at this
        exact this
      have hix : lastIx (most M B) 0 0 B = A.length := by
        have := lastIx_split hC A 0 0
        rw [← hB] at this
        omega
      have hAl : A.length < B.length := by
        have : (A ++ most M B :: C).length = B.length := by rw [← hB]
        simp at this; omega
      obtain ⟨m1, l1, l2, l3, h1, l5⟩ := h.put hAl (least M B)
      have hset : B.set A.length (least M B) = stepB M B := by
        rw [hst]
        have : (A ++ most M B :: C).set A.length (least M B) = A ++ least M B :: C := by simp
        rw [← hB] at this
        exact this
      rw [hset] at h1
      obtain ⟨m', n', q1, q2, run⟩ := rreb hM hpos hne f m1 n (stepB M B) (by have := step_lt hM hne hg; omega) (by unfold stepB; rw [replLast_length]; exact hp) h1 (hr.put h.apart.1 h.apart.2 l5)
      refine ⟨m', n', by rw [rebal_go hg]; exact q1, q2, fun Q hq => ?_⟩
      refine W_of mixed (cfg := xcfg) (fuel := 400) ?_
      rw [xRef11WheelSetk3]
      refine rmost_c h hpos hne ⟨_, rfl, Later.mk (rload_c h ⟨_, rfl, Later.mk (rleast_c h hpos hne ⟨_, rfl, Later.mk (rload_c h ⟨_, rfl, Later.mk ?_⟩)⟩)⟩)⟩
      rw [loadP_pos p1, loadP_pos p2, dw]
      refine condDT hg (rmost_c h hpos hne ⟨_, rfl, Later.mk (rleast_c h hpos hne ⟨_, rfl, Later.mk ?_⟩)⟩)
      exact rlast_loop h hp (by omega) l1 l2 (by rw [hix]; exact l3) (run Q hq) B [] 0 rfl rfl
    · refine ⟨m, n, by rw [rebal_stop hg]; exact h, hr, fun Q hq => ?_⟩
      refine W_of mixed (cfg := xcfg) (fuel := 400) ?_
      rw [xRef11WheelSetk3]
      refine rmost_c h hpos hne ⟨_, rfl, Later.mk (rload_c h ⟨_, rfl, Later.mk (rleast_c h hpos hne ⟨_, rfl, Later.mk (rload_c h ⟨_, rfl, Later.mk ?_⟩)⟩)⟩)⟩
      rw [loadP_pos p1, loadP_pos p2, dw]
      exact condDF hg hq
theorem rfill {m0 : Mem} {n0 w b : Nat} {M : List Int} {ma : Option Addr} {mc o : Nat} {sp : Option Nat} (hM : M.Nodup) (hpos : ∀ x ∈ M, 0 ≤ x) (hne : M ≠ []) :
    ∀ (post pre : List Int) (m : Mem) (n : Nat), (∀ x ∈ post, x = -1 ∨ 0 ≤ x) → 0 < (pre ++ post).length → RV m n w b M (pre ++ post) ma mc o sp → RP m0 n0 w b m n →
    ∃ m' n', RV m' n' w b M (rebal M fuelB (fillG M pre post)) ma mc o sp ∧ RP m0 n0 w b m' n' ∧ ∀ Q : Value → Mem → Nat → Prop, Q (vi 0) m' n' →
      W Try.prog { fn := fRef11WheelSet, nt := 151, slots := [(0, pp w), (7, .int .i64 (pre.length : Nat))], todo := pt Try.prog fRef11WheelSet [1, 1, 1, 1, 1, 1, 0, 1, 0, 0] } m n Q
  | [], pre, m, n, _, hp, h, hr => by
    simp only [List.append_nil] at h hp
    obtain ⟨m', n', q1, q2, run⟩ := rreb hM hpos hne fuelB m n pre (fuel_ok hM h.big) hp h hr
    refine ⟨m', n', q1, q2, fun Q hq => ?_⟩
    refine W_of mixed (cfg := xcfg) (fuel := 400) ?_
    rw [xRef11WheelSetk2]
    exact ⟨isC_of h.get, _, _, _, rd_of h.get rfl, condDF (by omega) (run Q hq)⟩
  | x :: post, pre, m, n, hx, hp, h, hr => by
    have hlt : pre.length < (pre ++ x :: post).length := by simp
    have hg : (pre ++ x :: post)[pre.length] = x := by simp
    have hbig := h.big
    have hw := wrapN (k := pre.length) (by omega)
    rcases hx x (List.mem_cons_self ..) with hx1 | hx1
    · obtain ⟨m1, l1, l2, l3, h1, l5⟩ := (h.up (n' := n + 9) (by omega)).put hlt (least M (pre ++ x :: post))
      have hset : (pre ++ x :: post).set pre.length (least M (pre ++ x :: post)) = (pre ++ [least M (pre ++ x :: post)]) ++ post := by simp
      rw [hset] at h1
      obtain ⟨m', n', q1, q2, run⟩ := rfill hM hpos hne post (pre ++ [least M (pre ++ x :: post)]) m1 (n + 9) (fun y hy => hx y (List.mem_cons_of_mem _ hy)) (by simp; omega) h1 ((hr.up (by omega)).put h.apart.1 (by have := h.apart.2; omega) l5)
      refine ⟨m', n', by rw [fillG, if_pos hx1]; exact q1, q2, fun Q hq => ?_⟩
      refine W_of mixed (cfg := xcfg) (fuel := 400) ?_
      rw [xRef11WheelSetk2]
      refine ⟨isC_of h.get, _, _, _, rd_of h.get rfl, condDT (by omega) ⟨isC_of h.get, _, _, _, rd_of h.get rfl, h.ow.sl.ldi hlt ?_⟩⟩
      rw [hg]
      refine condDT (by omega) ⟨isC_of h.get, _, _, _, rd_of h.get rfl, _, _, _, rleast_c (h.up (by omega)) hpos hne ⟨rfl, rfl, rfl⟩, Later.mk ?_⟩
      refine ⟨⟨by omega, by omega, l1, l2⟩, m1, by simpa using l3, ⟨_, _, _, rd_of h.get rfl, rfl⟩, ⟨isC_of h.get, rfl⟩, Nat.le_refl _, Nat.le_refl _, ?_⟩
      rw [hw]
      have hlen : (((pre ++ [least M (pre ++ x :: post)]).length : Nat) : Int) = ((pre.length + 1 : Nat) : Int) := by simp
      rw [hlen] at run
      exact run Q hq
    · have hx2 : x ≠ -1 := by omega
      obtain ⟨m', n', q1, q2, run⟩ := rfill hM hpos hne post (pre ++ [x]) m n (fun y hy => hx y (List.mem_cons_of_mem _ hy)) (by simp; omega) (by simpa using h) hr
      refine ⟨m', n', by rw [fillG, if_neg hx2]; exact q1, q2, fun Q hq => ?_⟩
      refine W_of mixed (cfg := xcfg) (fuel := 400) ?_
      rw [xRef11WheelSetk2]
      refine ⟨isC_of h.get, _, _, _, rd_of h.get rfl, condDT (by omega) ⟨isC_of h.get, _, _, _, rd_of h.get rfl, h.ow.sl.ldi hlt ?_⟩⟩
      rw [hg, hw]
      have hlen : (((pre ++ [x]).length : Nat) : Int) = ((pre.length + 1 : Nat) : Int) := by simp
      rw [hlen] at run
      exact condDF (by omega) (run Q hq)
theorem rclean {m0 : Mem} {n0 w b : Nat} {X : List Int} {xa : Option Addr} {xc : Nat} {ma : Option Addr} {mc o : Nat} {sp : Option Nat} (hX : X.Nodup) (hpos : ∀ x ∈ X, 0 ≤ x) (hlX : X.length ≤ 1000) (hap : ∀ o s, xa ≠ some ⟨b, o, s⟩) :
    ∀ (post pre : List Int) (m : Mem) (n : Nat), 0 < (pre ++ post).length → RV m n w b X (clean X pre ++ post) ma mc o sp → RP m0 n0 w b m n → Sl m n xa xc (X.map vi) →
    ∃ m' n', RV m' n' w b X (setB X (pre ++ post)) ma mc o sp ∧ RP m0 n0 w b m' n' ∧ ∀ Q : Value → Mem → Nat → Prop, Q (vi 0) m' n' →
      W Try.prog { fn := fRef11WheelSet, nt := 151, slots := [(0, pp w), (1, .slice xa X.length xc), (6, .int .i64 (pre.length : Nat))], todo := pt Try.prog fRef11WheelSet [1, 1, 1, 1, 0, 1, 0, 0] } m n Q
  | [], pre, m, n, hp, h, hr, hx => by
    simp only [List.append_nil] at h hp
    have hcl : (clean X pre).length = pre.length := clean_length ..
    by_cases he : X = []
    · refine ⟨m, n, by rw [List.append_nil, setB, if_pos he]; exact h, hr, fun Q hq => ?_⟩
      refine W_of mixed (cfg := xcfg) (fuel := 400) ?_
      rw [xRef11WheelSetk1]
      exact ⟨isC_of h.get, _, _, _, rd_of h.get rfl, condDF (by omega) (condET (by simp [he]) hq)⟩
    · obtain ⟨m', n', q1, q2, run⟩ := rfill hX hpos he (clean X pre) [] m n (fun x hx => (clean_cases x hx).imp id (hpos x)) (by simpa [hcl] using hp) (by simpa using h) hr
      refine ⟨m', n', by rw [List.append_nil, setB, if_neg he]; exact q1, q2, fun Q hq => ?_⟩
      refine W_of mixed (cfg := xcfg) (fuel := 400) ?_
      rw [xRef11WheelSetk1]
      have hxl : (X.length : Int) ≠ 0 := by have := List.length_pos_iff.2 he; omega
      exact ⟨isC_of h.get, _, _, _, rd_of h.get rfl, condDF (by omega) (condEF hxl (run Q hq))⟩
  | x :: post, pre, m, n, hp, h, hr, hx => by
    have hcl : (clean X pre).length = pre.length := clean_length ..
    have hlt : pre.length < (clean X pre ++ x :: post).length := by simp [hcl]
    have hg : (clean X pre ++ x :: post)[pre.length] = x := by rw [List.getElem_append_right (by omega)]; simp [hcl]
    have hbig := h.big
    have hw := wrapN (k := pre.length) (by omega)
    have hlen : (((pre ++ [x]).length : Nat) : Int) = ((pre.length + 1 : Nat) : Int) := by simp
    cases hc : X.contains x with
    | true =>
      have hmem : x ∈ X := by simpa using hc
      have h1 : RV m n w b X (clean X (pre ++ [x]) ++ post) ma mc o sp := by simpa [clean, hmem] using h
      obtain ⟨m', n', q1, q2, run⟩ := rclean hX hpos hlX hap post (pre ++ [x]) m n (by simp; omega) h1 hr hx
      refine ⟨m', n', by simpa using q1, q2, fun Q hq => ?_⟩
      refine W_of mixed (cfg := xcfg) (fuel := 400) ?_
      rw [xRef11WheelSetk1]
      refine ⟨isC_of h.get, _, _, _, rd_of h.get rfl, condDT (by omega) ⟨isC_of h.get, _, _, _, rd_of h.get rfl, h.ow.sl.ldi hlt (ris_c hx hlX ⟨_, rfl, Later.mk ?_⟩)⟩⟩
      rw [hg, hc, hw]
      rw [hlen] at run
      exact condF rfl (run Q hq)
    | false =>
      have hmem : x ∉ X := by simpa using hc
      obtain ⟨m1, l1, l2, l3, h1, l5⟩ := h.put hlt (-1)
      have hset : (clean X pre ++ x :: post).set pre.length (-1) = clean X (pre ++ [x]) ++ post := by
        rw [List.set_append_right _ _ (by omega)]
        simp [hcl, clean, hmem]
      rw [hset] at h1
      have hx1 : Sl m1 n xa xc (X.map vi) := hx.same (Nat.le_refl _) fun b' o' s' e => l5 b' fun e' => by subst e'; exact hap _ _ e
      obtain ⟨m', n', q1, q2, run⟩ := rclean hX hpos hlX hap post (pre ++ [x]) m1 n (by simp; omega) h1 (hr.put h.apart.1 h.apart.2 l5) hx1
      refine ⟨m', n', by simpa using q1, q2, fun Q hq => ?_⟩
      refine W_of mixed (cfg := xcfg) (fuel := 400) ?_
      rw [xRef11WheelSetk1]
      refine ⟨isC_of h.get, _, _, _, rd_of h.get rfl, condDT (by omega) ⟨isC_of h.get, _, _, _, rd_of h.get rfl, h.ow.sl.ldi hlt (ris_c hx hlX ⟨_, rfl, Later.mk ?_⟩)⟩⟩
      rw [hg, hc, hw]
      rw [hlen] at run
      exact condT rfl ⟨isC_of h.get, _, _, _, rd_of h.get rfl, ⟨by omega, by omega, l1, l2⟩, m1, by simpa using l3, run Q hq⟩
end Go.Proofs.Ytblijemhmpfihaa

namespace Go.Proofs.Ytblijemhmpfihaa
open Go Go.Ab Sp

theorem setErr_asc : ∀ (X : List Int) (p : Option Int), setErr X p = 0 → Asc X
  | [], _, _ => ⟨.nil, fun _ h => nomatch h⟩
  | x :: X, p, h => by
    obtain ⟨h1, h2, h3⟩ := setErr_nodup (x :: X) p h
    refine ⟨?_, h3⟩
    have hX : setErr X (some x) = 0 := by
      have a1 : ¬ x < 0 := by have := h3 x (List.mem_cons_self ..); omega
      have a2 : ¬ x ≥ 128 := by have := h3 x (List.mem_cons_self ..); omega
      simp only [setErr, if_neg a1, if_neg a2] at h
      cases p with
      | none => exact h
      | some q =>
        simp only at h
        split at h
        · exact absurd h (by decide)
        · exact h
    obtain ⟨_, g2, _⟩ := setErr_nodup X (some x) hX
    exact List.Pairwise.cons (fun y hy => g2 x rfl y hy) (setErr_asc X (some x) hX).1

/-- What Set leaves: the lists too. -/
structure RQ (m0 : Mem) (n0 w b : Nat) (M B : List Int) (m : Mem) (n : Nat) : Prop where
  rv : ∃ ma mc o sp, RV m n w b M B ma mc o sp
  rp : RP m0 n0 w b m n
theorem rval {m0 m : Mem} {n0 w b : Nat} {M B X : List Int} {ma : Option Addr} {mc o : Nat} {sp : Option Nat} {xa : Option Addr} {xc : Nat} (hpB : 0 < B.length) (hlX : X.length ≤ 1000) (hap : ∀ o s', xa ≠ some ⟨b, o, s'⟩) (haw : ∀ o s', xa ≠ some ⟨w, o, s'⟩) :
    ∀ l pre n, RV m n w b M B ma mc o sp → RP m0 n0 w b m n → Sl m n xa xc (X.map vi) → X = pre ++ l → setErr X none = setErr l pre.getLast? → ∃ m' n', RQ m0 n0 w b (setF X M B).2.1 (setF X M B).2.2 m' n' ∧ ∀ Q : Value → Mem → Nat → Prop, Q (vi (setF X M B).1) m' n' →
      W Try.prog { fn := fRef11WheelSet, nt := 151, slots := [(0, pp w), (1, .slice xa X.length xc), (5, .int .i64 (pre.length : Nat))], todo := pt Try.prog fRef11WheelSet [1, 0, 1, 0, 0] } m n Q
  | [], pre, n, h, hr, hx, hX, he => by
    have he0 : setErr X none = 0 := he
    have hpl : pre.length = X.length := by simp [hX]
    by_cases hlen : (X.length : Int) > B.length
    · have hF : setF X M B = (7, (M, B)) := by unfold Sp.setF; rw [if_neg (by simp [he0]), if_pos hlen]
      rw [hF]
      refine ⟨m, n, ⟨⟨_, _, _, _, h⟩, hr⟩, fun Q hq => ?_⟩
      refine W_of mixed (cfg := xcfg) (fuel := 400) ?_
      rw [xRef11WheelSetk0]
      exact condDF (by omega) ⟨isC_of h.get, _, _, _, rd_of h.get rfl, condDT hlen hq⟩
    · have hF : setF X M B = (0, (X, setB X B)) := by unfold Sp.setF; rw [if_neg (by simp [he0]), if_neg hlen]
      rw [hF]
      obtain ⟨hnd, _, hb3⟩ := setErr_nodup X none he0
      have hlw := h.lw
      have hapt := h.apart
      have h0 : Ow (m.set n (.cells none tInt 1 [])) n (n + 1) tInt 1 (some ⟨n, 0, none⟩) 0 0 [] := Ow.new (Nat.le_refl _) rfl
      have hle : Le m n (m.set n (.cells none tInt 1 [])) (n + 1) := Le.new
      obtain ⟨pa, m1, n1, g1, g2, g3, g4, g5, g6⟩ := h0.append (t := tLint) (k := X.length) intOk ((hx.le hle).cells (by simp) (by omega)) (by simp [cellOk]) (by simp) (by omega) (by omega)
      rw [Nat.zero_add] at g1 g2
      rw [List.nil_append] at g2
      have hle1 : Le m n m1 n1 := ⟨by omega, fun i hi => by rw [g5 i (by omega) (by intro b o s e; cases e; omega)]; exact hle.same i hi⟩
      have h1 := h.le hle1
      generalize hm2 : m1.set w (.cells none tRef11Wheel 2 [.slice pa X.length X.length, .slice (some ⟨b, o, sp⟩) B.length B.length]) = m2
      have k2 : ∀ i, i ≠ w → m2.get i = m1.get i := fun i hi => by rw [← hm2, Tr.get_set, if_neg (fun e => hi e.symm)]
      have gw2 : m2.get w = some (.cells none tRef11Wheel 2 [.slice pa X.length X.length, .slice (some ⟨b, o, sp⟩) B.length B.length]) := by rw [← hm2]; simp [Tr.get_set]
      have hv2 : RV m2 n1 w b X (clean X [] ++ B) pa X.length o sp := by
        refine ⟨gw2, h1.lw, ?_, ?_, fun o' s' e => ?_, hlX, h.big⟩
        · exact g2.sl.same (Nat.le_refl _) fun b' o' s' e => k2 b' (by have := (g2.bnd e).1; omega)
        · exact h1.ow.same (Nat.le_refl _) fun b' o' s' e => by cases e; exact k2 b (fun e => hapt.1 e.symm)
        · have := (g2.bnd e).1; omega
      have hr2 : RP m0 n0 w b m2 n1 := by
        refine ⟨by have := hr.le; have := hle1.le; omega, fun i hi hw hb => ?_, fun hf i hi => ?_, fun x hx' hlx => ?_⟩
        · rw [k2 i hw, hle1.same i (by have := hr.le; omega)]; exact hr.same i hi hw hb
        · rw [k2 i (by have := h1.lw; omega)]; exact g6 (hr.fs hf).set i hi
        · obtain ⟨o', s', l', c', r', e⟩ := hx'
          rw [gw2] at e
          simp only [Option.some.injEq, AObj.cells.injEq, List.cons.injEq, Value.slice.injEq, true_and, and_true] at e
          have := (g2.bnd e.1.1).1
          have := hr.le
          omega
      have hx2 : Sl m2 n1 xa xc (X.map vi) := (hx.le hle1).same (Nat.le_refl _) fun b' o' s' e => k2 b' (by rintro rfl; exact haw _ _ e)
      obtain ⟨m', n', q1, q2, run⟩ := rclean hnd (fun x hx => (hb3 x hx).1) hlX hap B [] m2 n1 hpB hv2 hr2 hx2
      refine ⟨m', n', ⟨⟨_, _, _, _, by simpa using q1⟩, q2⟩, fun Q hq => ?_⟩
      refine W_of mixed (cfg := xcfg) (fuel := 400) ?_
      rw [xRef11WheelSetk0]
      refine condDF (by omega) ⟨isC_of h.get, _, _, _, rd_of h.get rfl, condDF hlen (memLet.mk fun m3 e3 => ?_)⟩
      subst e3
      exact ⟨_, _, _, _, _, g1, isC_of h1.get, m2, by rw [← hm2]; exact store_of h1.get (by simp) (by simp [cellOk]), run Q hq⟩
  | x :: l, pre, n, h, hr, hx, hX, he => by
    have hlt : pre.length < X.length := by simp [hX]
    have hg : X[pre.length] = x := by simp [hX]
    have hw := wrapN (k := pre.length) (by omega)
    have fail : ∀ e n', n ≤ n' → setErr X none = e → e ≠ 0 → RQ m0 n0 w b (setF X M B).2.1 (setF X M B).2.2 m n' ∧ (setF X M B).1 = e := fun e n' hn h1 h2 => by
      have hF : setF X M B = (e, (M, B)) := by unfold Sp.setF; rw [if_pos (by rw [h1]; exact h2), h1]
      rw [hF]; exact ⟨⟨⟨_, _, _, _, h.up hn⟩, hr.up hn⟩, rfl⟩
    simp only [setErr] at he
    by_cases h1 : x < 0
    · rw [if_pos h1] at he
      obtain ⟨q1, q2⟩ := fail 2 n (Nat.le_refl _) he (by decide)
      refine ⟨m, n, q1, fun Q hq => ?_⟩
      rw [q2] at hq
      refine W_of mixed (cfg := xcfg) (fuel := 400) ?_
      rw [xRef11WheelSetk0]
      refine condDT (by omega) (hx.ldi hlt ?_)
      rw [hg]
      exact condDT h1 hq
    by_cases h2 : x ≥ 128
    · rw [if_neg h1, if_pos h2] at he
      obtain ⟨q1, q2⟩ := fail 2 n (Nat.le_refl _) he (by decide)
      refine ⟨m, n, q1, fun Q hq => ?_⟩
      rw [q2] at hq
      refine W_of mixed (cfg := xcfg) (fuel := 400) ?_
      rw [xRef11WheelSetk0]
      refine condDT (by omega) (hx.ldi hlt ?_)
      rw [hg]
      refine condDF h1 (hx.ldi hlt ?_)
      rw [hg]
      exact condDT h2 hq
    rw [if_neg h1, if_neg h2] at he
    have hlen : (((pre ++ [x]).length : Nat) : Int) = ((pre.length + 1 : Nat) : Int) := by simp
    have hlast : (pre ++ [x]).getLast? = some x := by simp
    have hx1 : Sl m (n + 14) xa xc (X.map vi) := hx.same (by omega) fun _ _ _ _ => rfl
    by_cases h3 : (pre.length : Int) > 0
    · have hp := wrapP (k := pre.length) (by omega) (by omega)
      have hlst : pre.getLast? = some X[pre.length - 1] := by
        rw [List.getLast?_eq_getElem?]
        have : pre.length - 1 < pre.length := by omega
        simp [hX, List.getElem_append, this]
      rw [hlst] at he
      simp only at he
      by_cases h4 : x ≤ X[pre.length - 1]
      · rw [if_pos h4] at he
        obtain ⟨q1, q2⟩ := fail 10 (n + 14) (by omega) he (by decide)
        refine ⟨m, n + 14, q1, fun Q hq => ?_⟩
        rw [q2] at hq
        refine W_of mixed (cfg := xcfg) (fuel := 400) ?_
        rw [xRef11WheelSetk0]
        refine condDT (by omega) (hx.ldi hlt ?_)
        rw [hg]
        refine condDF h1 (hx.ldi hlt ?_)
        rw [hg]
        refine condDF h2 (condDT h3 (hx.ldi hlt ?_))
        rw [hg, hp]
        exact hx.ldi (i := pre.length - 1) (by omega) (condDT h4 hq)
      · rw [if_neg h4] at he
        obtain ⟨m', n', q, run⟩ := rval hpB hlX hap haw l (pre ++ [x]) (n + 14) (h.up (by omega)) (hr.up (by omega)) hx1 (by simp [hX]) (by rw [he, hlast])
        refine ⟨m', n', q, fun Q hq => ?_⟩
        refine W_of mixed (cfg := xcfg) (fuel := 400) ?_
        rw [xRef11WheelSetk0]
        refine condDT (by omega) (hx.ldi hlt ?_)
        rw [hg]
        refine condDF h1 (hx.ldi hlt ?_)
        rw [hg]
        refine condDF h2 (condDT h3 (hx.ldi hlt ?_))
        rw [hg, hp]
        refine hx.ldi (i := pre.length - 1) (by omega) (condDF h4 ?_)
        rw [hw]
        rw [hlen] at run
        exact run Q hq
    · have hpre : pre = [] := List.length_eq_zero_iff.1 (by omega)
      have hlst : pre.getLast? = none := by rw [hpre]; rfl
      rw [hlst] at he
      obtain ⟨m', n', q, run⟩ := rval hpB hlX hap haw l (pre ++ [x]) (n + 14) (h.up (by omega)) (hr.up (by omega)) hx1 (by simp [hX]) (by rw [he, hlast])
      refine ⟨m', n', q, fun Q hq => ?_⟩
      refine W_of mixed (cfg := xcfg) (fuel := 400) ?_
      rw [xRef11WheelSetk0]
      refine condDT (by omega) (hx.ldi hlt ?_)
      rw [hg]
      refine condDF h1 (hx.ldi hlt ?_)
      rw [hg]
      refine condDF h2 (condDF h3 ?_)
      rw [hw]
      rw [hlen] at run
      exact run Q hq
theorem rset_c {m : Mem} {n w b : Nat} {M B X : List Int} {ma : Option Addr} {mc o : Nat} {sp : Option Nat} {xa : Option Addr} {xc : Nat} (h : RV m n w b M B ma mc o sp) (hpB : 0 < B.length) (hx : Sl m n xa xc (X.map vi)) (hlX : X.length ≤ 1000) (hap : ∀ o s', xa ≠ some ⟨b, o, s'⟩) (haw : ∀ o s', xa ≠ some ⟨w, o, s'⟩) :
    ∃ m' n', RQ m n w b (setF X M B).2.1 (setF X M B).2.2 m' n' ∧ Exact Try.prog fRef11WheelSet [pp w, .slice xa X.length xc] m n (vi (setF X M B).1) m' n' := by
  obtain ⟨m', n', q, run⟩ := rval hpB hlX hap haw X [] n h RP.refl hx rfl rfl
  refine ⟨m', n', q, fun Q hq => ?_⟩
  refine Wc_of mixed (cfg := xcfg) (fuel := 400) ?_
  rw [xRef11WheelSet]
  exact run Q hq
end Go.Proofs.Ytblijemhmpfihaa

namespace Go.Proofs.Ytblijemhmpfihaa
open Go Go.Ab Sp

/-- New, of the reference. -/
theorem rnew_loop {m0 : Mem} {w k : Nat} (hk : 0 < k) (hk2 : k ≤ 256) : ∀ (l ln : Nat) (m : Mem) (n : Nat) (ba : Option Addr), k = ln + l → m.get w = some (.cells none tRef11Wheel 2 [.slice none 0 0, .slice ba ln ln]) → Ow m (w + 1) n tInt 1 ba ln ln ((List.replicate ln (-1)).map vi) → Le m0 w m n → (Fs m0 w → Fs m n) → w < n →
    ∃ m' n' b o sp, RV m' n' w b [] (List.replicate k (-1)) none 0 o sp ∧ w < b ∧ Le m0 w m' n' ∧ (Fs m0 w → Fs m' n') ∧ ∀ Q : Value → Mem → Nat → Prop, Q (.tuple ⟨[pp w, .int .i64 0]⟩) m' n' →
      W Try.prog { fn := fRef11New, nt := 29, slots := [(0, .int .i64 (k : Nat)), (4, pp w), (5, .int .i64 ln)], todo := pt Try.prog fRef11New [1, 1, 1, 0, 1, 0, 0] } m n Q
  | 0, ln, m, n, ba, hl, hg, ho, hle, hf, hw => by
    obtain rfl : k = ln := by omega
    obtain ⟨g0, g1, g2⟩ := ho
    rcases g2 with ⟨_, _, h3⟩ | ⟨b, o, sp, full, e, p2, p3, p4, p5, p6⟩
    · exfalso
      omega
    · subst e
      have how : Ow m 0 n tInt 1 (some ⟨b, o, sp⟩) k k ((List.replicate k (-1)).map vi) := ⟨g0, g1, .inr ⟨b, o, sp, full, rfl, Nat.zero_le _, p3, p4, p5, p6⟩⟩
      refine ⟨m, n, b, o, sp, ⟨by simpa using hg, hw, Sl.nil, by simpa using how, by simp, by simp, by simpa using hk2⟩, by omega, hle, hf, fun Q hq => ?_⟩
      refine W_of mixed (cfg := xcfg) (fuel := 400) ?_
      rw [xRef11Newk0]
      exact condDF (by omega) hq
  | l + 1, ln, m, n, ba, hl, hg, ho, hle, hf, hw => by
    have hle1 : Le m n (m.set n (.cells none tInt 1 [vi (-1)])) (n + 1) := Le.new
    have hsc : sliceCells (m.set n (.cells none tInt 1 [vi (-1)])) 1 1 (.slice (some ⟨n, 0, none⟩) 1 1) = some [vi (-1)] := one_cell (T := tInt) (sz := 1) (by simp [Tr.get_set])
    obtain ⟨a', m1, n1, h1, h2, h3, h4, h5, h6⟩ := (ho.le hle1).append (t := tLint) (k := 1) intOk hsc (by simp [cellOk]) (by simp) (by omega) (by omega)
    have hlw := hle.le
    have gw1 : m1.get w = some (.cells none tRef11Wheel 2 [.slice none 0 0, .slice ba ln ln]) := by
      rw [h5 w (by omega) (fun b o s e => by have := (ho.bnd e).1; omega), hle1.same w hw]; exact hg
    generalize hm2 : m1.set w (.cells none tRef11Wheel 2 [.slice none 0 0, .slice a' (ln + 1) (ln + 1)]) = m2
    have k2 : ∀ i, i ≠ w → m2.get i = m1.get i := fun i hi => by rw [← hm2, Tr.get_set, if_neg (fun e => hi e.symm)]
    have gw2 : m2.get w = some (.cells none tRef11Wheel 2 [.slice none 0 0, .slice a' (ln + 1) (ln + 1)]) := by rw [← hm2]; simp [Tr.get_set]
    have ho2 : Ow m2 (w + 1) n1 tInt 1 a' (ln + 1) (ln + 1) ((List.replicate (ln + 1) (-1)).map vi) := by
      have : (List.replicate (ln + 1) (-1)).map vi = (List.replicate ln (-1)).map vi ++ [vi (-1)] := by rw [List.replicate_succ']; simp
      rw [this]
      exact h2.same (Nat.le_refl _) fun b o s e => k2 b (by have := (h2.bnd e).1; omega)
    have hle2 : Le m0 w m2 n1 := ⟨by omega, fun i hi => by
      rw [k2 i (by omega), h5 i (by omega) (fun b o s e => by have := (ho.bnd e).1; omega), hle1.same i (by omega)]; exact hle.same i hi⟩
    have hf2 : Fs m0 w → Fs m2 n1 := fun h i hi => by rw [k2 i (by omega)]; exact h6 (hf h).set i hi
    obtain ⟨m', n', b, o, sp, q1, q2, q3, q4, run⟩ := rnew_loop hk hk2 l (ln + 1) m2 n1 a' (by omega) gw2 ho2 hle2 hf2 (by omega)
    refine ⟨m', n', b, o, sp, q1, q2, q3, q4, fun Q hq => ?_⟩
    refine W_of mixed (cfg := xcfg) (fuel := 400) ?_
    rw [xRef11Newk0]
    have hwr := wrapN (k := ln) (by omega)
    refine condDT (by omega) ⟨isC_of hg, _, _, _, rd_of hg rfl, memLet.mk fun m3 e3 => ?_⟩
    subst e3
    refine ⟨_, _, _, _, _, h1, isC_of gw1, m2, by rw [← hm2]; exact store_of gw1 (by simp) (by simp [cellOk]), ?_⟩
    rw [hwr]
    exact run Q hq
theorem rnew_c {m : Mem} {n k : Nat} (hk : 0 < k) (hk2 : k ≤ 256) :
    ∃ m' n' b o sp, RV m' n' n b [] (List.replicate k (-1)) none 0 o sp ∧ n < b ∧ Le m n m' n' ∧ (Fs m n → Fs m' n') ∧ Exact Try.prog fRef11New [.int .i64 (k : Int)] m n (.tuple ⟨[pp n, .int .i64 0]⟩) m' n' := by
  have hle : Le m n (m.set n (.cells none tRef11Wheel 2 [.slice none 0 0, .slice none 0 0])) (n + 1) := Le.new
  obtain ⟨m', n', b, o, sp, q1, q2, q3, q4, run⟩ := rnew_loop (m0 := m) (w := n) hk hk2 k 0 (m.set n (.cells none tRef11Wheel 2 [.slice none 0 0, .slice none 0 0])) (n + 1) none (by omega) (by simp [Tr.get_set]) Ow.nil hle (fun h => h.set) (by omega)
  refine ⟨m', n', b, o, sp, q1, q2, q3, q4, fun Q hq => ?_⟩
  refine Wc_of mixed (cfg := xcfg) (fuel := 400) ?_
  rw [xRef11New]
  exact condDF (by omega) (condDF (by omega) (memLet.mk fun m0 e => by subst e; exact run Q hq))
theorem bad_new {m : Mem} {n : Nat} {x : Int} {Q : Value → Mem → Nat → Prop} (hx : x < 1 ∨ x > 256) (hq : Q (.tuple ⟨[.pointer none, .int .i64 2]⟩) m n) : Wc Try.prog fSpreadNew [.int .i64 x] m n Q := by
  refine Wc_of mixed (cfg := xcfg) (fuel := 400) ?_
  rw [xSpreadNew]
  exact condD (fun _ => hq) fun h => condDT (by omega) hq
theorem bad_rnew {m : Mem} {n : Nat} {x : Int} {Q : Value → Mem → Nat → Prop} (hx : x < 1 ∨ x > 256) (hq : Q (.tuple ⟨[.pointer none, .int .i64 2]⟩) m n) : Wc Try.prog fRef11New [.int .i64 x] m n Q := by
  refine Wc_of mixed (cfg := xcfg) (fuel := 400) ?_
  rw [xRef11New]
  exact condD (fun _ => hq) fun h => condDT (by omega) hq

/-- Copy, of the reference. -/
theorem rcopy_c {m : Mem} {n w b : Nat} {M B : List Int} {ma : Option Addr} {mc o : Nat} {sp : Option Nat} (h : RV m n w b M B ma mc o sp) (hp : 0 < B.length) (hf : Fs m n) :
    ∃ m' n' w' b' ma' mc' o' sp', RV m' n' w' b' M B ma' mc' o' sp' ∧ n ≤ w' ∧ n ≤ b' ∧ (∀ x, rBlk m' w' x → n ≤ x) ∧ Le m n m' n' ∧ Fs m' n' ∧ Exact Try.prog fRef11WheelCopy [pp w] m n (pp w') m' n' := by
  have hbig := h.big
  have hlm := h.lm
  have hle0 : Le m n (m.set (n + 0) (.cells none tInt 1 [])) (n + 15) := ⟨by omega, fun i hi => by rw [Tr.get_set, if_neg (by omega)]⟩
  have ow0 : Ow (m.set (n + 0) (.cells none tInt 1 [])) n (n + 15) tInt 1 (some ⟨n + 0, 0, none⟩) 0 0 [] := ⟨rfl, by simp, .inr ⟨n + 0, 0, none, [], rfl, by omega, by omega, by simp [Tr.get_set], by simp, by simp⟩⟩
  obtain ⟨pa, m1, n1, g1, g2, g3, g4, g5, g6⟩ := ow0.append (t := tLint) (k := M.length) intOk ((h.mem.le hle0).cells (by simp) (by omega)) (by simp [cellOk]) (by simp) (by omega) (by omega)
  rw [Nat.zero_add] at g1 g2
  rw [List.nil_append] at g2
  have hle1 : Le m n m1 n1 := ⟨by omega, fun i hi => by rw [g5 i (by omega) (by intro b o s e; cases e; omega)]; exact hle0.same i hi⟩
  have hf0 : Fs (m.set (n + 0) (.cells none tInt 1 [])) (n + 15) := fun i hi => by rw [Tr.get_set, if_neg (by omega)]; exact hf i (by omega)
  have hf1 : Fs m1 n1 := g6 hf0
  have mid1 : ∀ i, n < i → i < n + 15 → m1.get i = none := fun i h1 h2 => by
    rw [g5 i h2 (by intro b o s e; cases e; omega), Tr.get_set, if_neg (by omega)]; exact hf i (by omega)
  have h1 := h.le hle1
  have pab : ∀ b o s, pa = some ⟨b, o, s⟩ → b ≠ n + 6 ∧ b ≠ n + 13 := fun b o s e => by
    rcases g4 b o s e with ⟨o', s', e'⟩ | e'
    · cases e'; omega
    · omega
  generalize hm2 : m1.set (n + 6) (.cells none tInt 1 []) = m2
  have k2 : ∀ i, i ≠ n + 6 → m2.get i = m1.get i := fun i hi => by rw [← hm2, Tr.get_set, if_neg (fun e => hi e.symm)]
  have ow2 : Ow m2 n n1 tInt 1 (some ⟨n + 6, 0, none⟩) 0 0 [] := ⟨rfl, by simp, .inr ⟨n + 6, 0, none, [], rfl, by omega, by omega, by rw [← hm2]; simp [Tr.get_set], by simp, by simp⟩⟩
  have hlw := h.lw
  have hbn := h.apart.2
  have hB2 : Sl m2 n1 (some ⟨b, o, sp⟩) B.length (B.map vi) := h1.ow.sl.same (Nat.le_refl _) fun b' o' s' e => by cases e; exact k2 b (by omega)
  obtain ⟨qa, m3, n3, r1, r2, r3, r4, r5, r6⟩ := ow2.append (t := tLint) (k := B.length) intOk (hB2.cells (by simp) (by omega)) (by simp [cellOk]) (by simp) (by omega) (by omega)
  rw [Nat.zero_add] at r1 r2
  rw [List.nil_append] at r2
  have qab : ∀ b o s, qa = some ⟨b, o, s⟩ → b ≠ n + 13 := fun b o s e => by
    rcases r4 b o s e with ⟨o', s', e'⟩ | e'
    · cases e'; omega
    · omega
  have lo3 : ∀ i, i < n1 → i ≠ n + 6 → m3.get i = m1.get i := fun i hi h6 => by
    rw [r5 i hi (by intro b o s e; cases e; exact h6)]; exact k2 i h6
  have hf3 : Fs m3 n3 := r6 fun i hi => by rw [k2 i (by omega)]; exact hf1 i hi
  generalize hm4 : m3.set (n + 13) (.cells none tRef11Wheel 2 [.slice pa M.length M.length, .slice qa B.length B.length]) = m4
  have k4 : ∀ i, i ≠ n + 13 → m4.get i = m3.get i := fun i hi => by rw [← hm4, Tr.get_set, if_neg (fun e => hi e.symm)]
  have gw4 : m4.get (n + 13) = some (.cells none tRef11Wheel 2 [.slice pa M.length M.length, .slice qa B.length B.length]) := by rw [← hm4]; simp [Tr.get_set]
  have hpa4 : Sl m4 n3 pa M.length (M.map vi) := g2.sl.same (by omega) fun b' o' s' e => by
    have := pab b' o' s' e
    rw [k4 b' this.2]; exact lo3 b' (g2.bnd e).2 this.1
  have hqa4 : Ow m4 n n3 tInt 1 qa B.length B.length (B.map vi) := r2.same (Nat.le_refl _) fun b' o' s' e => k4 b' (qab b' o' s' e)
  have hle4 : Le m n m4 n3 := ⟨by omega, fun i hi => by rw [k4 i (by omega), lo3 i (by omega) (by omega)]; exact hle1.same i hi⟩
  have hf4 : Fs m4 n3 := fun i hi => by rw [k4 i (by omega)]; exact hf3 i hi
  obtain ⟨u0, u1, u2⟩ := hqa4
  rcases u2 with ⟨_, _, u3⟩ | ⟨b', o', sp', full, e, p2, p3, p4, p5, p6⟩
  · exfalso
    omega
  · subst e
    have hab : ∀ o s, pa ≠ some ⟨b', o, s⟩ := fun o1 s1 e => by
      have h1 := (g2.bnd e).2
      rcases r4 b' o' sp' rfl with ⟨o2, s2, e'⟩ | e'
      · cases e'; exact (pab _ _ _ e).1 rfl
      · omega
    refine ⟨m4, n3, n + 13, b', pa, _, o', sp', ⟨gw4, by omega, hpa4, ⟨u0, u1, .inr ⟨b', o', sp', full, rfl, Nat.zero_le _, p3, p4, p5, p6⟩⟩, hab, hlm, hbig⟩, by omega, p2, fun x hx => ?_, hle4, hf4, fun Q hq => ?_⟩
    · obtain ⟨o2, s2, l2, c2, r2', e⟩ := hx
      rw [gw4] at e
      simp only [Option.some.injEq, AObj.cells.injEq, List.cons.injEq, Value.slice.injEq, true_and, and_true] at e
      exact (g2.bnd e.1.1).1
    · refine Wc_of mixed (cfg := xcfg) (fuel := 400) ?_
      rw [xRef11WheelCopy]
      refine ⟨isC_of h.get, _, _, _, rd_of h.get rfl, memLet.mk fun mm e => ?_⟩
      subst e
      refine ⟨_, _, _, _, _, g1, isC_of h1.get, _, _, _, rd_of h1.get rfl, memLet.mk fun mm e => ?_⟩
      rw [hm2] at e
      subst e
      refine ⟨_, _, _, _, _, r1, ⟨_, _, _, rd_of h.get rfl, rfl⟩, ⟨isC_of h.get, rfl⟩, g3, by omega, mid1 _ (by omega) (by omega), mid1 _ (by omega) (by omega), ?_, memLet.mk fun mm e => ?_⟩
      · rw [lo3 _ (by omega) (by omega)]; exact mid1 _ (by omega) (by omega)
      · rw [hm4] at e
        subst e
        exact hq
/-- Copy, of the wheel. -/
theorem Copy_c {m : Mem} {n w s b : Nat} {M B : List Int} (h : Whl m n w s b M B) (hf : Fs m n) :
    ∃ m' n' w' s' b', Whl m' n' w' s' b' M B ∧ n ≤ w' ∧ n ≤ s' ∧ n ≤ b' ∧ (∀ x, memBlk m' s' x → n ≤ x) ∧ Le m n m' n' ∧ Fs m' n' ∧ Exact Try.prog fSpreadWheelCopy [pp w] m n (pp w') m' n' := by
  obtain ⟨ma, mc, o, sp, h1, h2⟩ := h.st
  have hws := h.ls
  have hwl := h.lw
  have hbig := h.big
  have hpos := h.pos
  obtain ⟨pa, m1, n1, ow1, le1, fs1, run1⟩ := clone_c (h1.mem.same (n' := n + 21) (by omega) fun _ _ _ _ => rfl) h1.lm
  have l1 := le1.le
  have hst1 := (h1.up (n' := n + 21) (by omega)).le le1 (by omega)
  have gw1 := le1.get (by omega) h.get
  obtain ⟨qa, m2, n2, ow2, le2, fs2, run2⟩ := clone_c hst1.bkt hst1.lb
  have l2 := le2.le
  have mid : ∀ i, n ≤ i → i < n + 21 → m2.get i = none := fun i h1 h2 => by
    rw [le2.same i (by omega), le1.same i h2]; exact hf i h1
  have mid1 : ∀ i, n ≤ i → i < n + 21 → m1.get i = none := fun i h1 h2 => by
    rw [le1.same i h2]; exact hf i h1
  have hf2 : Fs m2 n2 := fs2 (fs1 (hf.up (by omega)))
  generalize hm3 : (m2.set (n + 17) (.cells none tSpreadstate 2 [.slice pa M.length M.length, .slice qa B.length B.length])).set (n + 19) (.cells none tSpreadWheel 1 [pp (n + 17)]) = m3
  have k3 : ∀ i, i ≠ n + 17 → i ≠ n + 19 → m3.get i = m2.get i := fun i h1 h2 => by rw [← hm3, Tr.get_set, if_neg (fun e => h2 e.symm), Tr.get_set, if_neg (fun e => h1 e.symm)]
  have gs3 : m3.get (n + 17) = some (.cells none tSpreadstate 2 [.slice pa M.length M.length, .slice qa B.length B.length]) := by rw [← hm3, Tr.get_set, if_neg (by omega)]; simp [Tr.get_set]
  have gw3 : m3.get (n + 19) = some (.cells none tSpreadWheel 1 [pp (n + 17)]) := by rw [← hm3]; simp [Tr.get_set]
  have hpa : Sl m3 n2 pa M.length (M.map vi) := (ow1.le le2).sl.same (Nat.le_refl _) fun b' o' s' e => by have := (ow1.bnd e).1; exact k3 b' (by omega) (by omega)
  have hqa : Ow m3 n1 n2 tInt 1 qa B.length B.length (B.map vi) := ow2.same (Nat.le_refl _) fun b' o' s' e => by have := (ow2.bnd e).1; exact k3 b' (by omega) (by omega)
  obtain ⟨u0, u1, u2⟩ := hqa
  rcases u2 with ⟨_, _, u3⟩ | ⟨b', o', sp', full, e, p2, p3, p4, p5, p6⟩
  · exfalso
    omega
  · subst e
    have hq3 : Ow m3 0 n2 tInt 1 (some ⟨b', o', sp'⟩) B.length B.length (B.map vi) := ⟨u0, u1, .inr ⟨b', o', sp', full, rfl, Nat.zero_le _, p3, p4, p5, p6⟩⟩
    refine ⟨m3, n2, n + 19, n + 17, b', ⟨gw3, by omega, by omega, hpos, hbig, pa, _, o', sp', ⟨gs3, hpa, hq3.sl, h1.lm, h1.lb⟩, hq3⟩, by omega, by omega, by omega, fun x hx => ?_, ⟨by omega, fun i hi => ?_⟩, fun i hi => ?_, fun Q hq => ?_⟩
    · obtain ⟨o2, s2, l2, c2, r2', e⟩ := hx
      rw [gs3] at e
      simp only [Option.some.injEq, AObj.cells.injEq, List.cons.injEq, Value.slice.injEq, true_and, and_true] at e
      have := (ow1.bnd e.1.1).1
      omega
    · rw [k3 i (by omega) (by omega), le2.same i (by omega), le1.same i (by omega)]
    · rw [k3 i (by omega) (by omega)]; exact hf2 i hi
    · refine Wc_of mixed (cfg := xcfg) (fuel := 400) ?_
      rw [xSpreadWheelCopy]
      refine valid_c h ⟨_, rfl, Later.mk (condF rfl ⟨isC_of h.get, _, rd_of h.get rfl, isC_of h1.get, _, _, _, rd_of h1.get rfl, _, _, _, _, _, run1 _ ⟨rfl, rfl, rfl⟩, Later.mk ?_⟩)⟩
      refine ⟨isC_of gw1, _, rd_of gw1 rfl, isC_of hst1.get, _, _, _, rd_of hst1.get rfl, _, _, _, _, _, run2 _ ⟨rfl, rfl, rfl⟩, Later.mk ?_⟩
      refine ⟨⟨_, _, _, rd_of h1.get rfl, rfl⟩, ⟨isC_of h1.get, rfl⟩, ⟨_, rd_of h.get rfl, rfl⟩, ⟨isC_of h.get, rfl⟩, by omega, by omega, mid1 _ (by omega) (by omega), mid1 _ (by omega) (by omega), mid _ (by omega) (by omega), mid _ (by omega) (by omega), memLet.mk fun mm e => ?_⟩
      rw [hm3] at e
      subst e
      exact hq
end Go.Proofs.Ytblijemhmpfihaa

namespace Go.Proofs.Ytblijemhmpfihaa
open Go Go.Ab Sp

/-- The blocks of both wheels. -/
def Foot1 (m : Mem) (w s b i : Nat) : Prop := i = w ∨ i = s ∨ i = b ∨ memBlk m s i
def Foot2 (m : Mem) (w b i : Nat) : Prop := i = w ∨ i = b ∨ rBlk m w i
theorem Whl.foot {m m' : Mem} {n n' w s b : Nat} {M B : List Int} (h : Whl m n w s b M B) (k : n ≤ n') (hs : ∀ i, Foot1 m w s b i → m'.get i = m.get i) : Whl m' n' w s b M B := by
  obtain ⟨ma, mc, o, sp, h1, h2⟩ := h.st
  have gs := h1.get
  have hb := hs b (.inr (.inr (.inl rfl)))
  refine ⟨(hs w (.inl rfl)).trans h.get, by have := h.lw; omega, by have := h.ls; omega, h.pos, h.big, ma, mc, o, sp, ⟨(hs s (.inr (.inl rfl))).trans gs, ?_, ?_, h1.lm, h1.lb⟩, ?_⟩
  · exact h1.mem.same k fun b' o' s' e => hs b' (.inr (.inr (.inr ⟨o', s', _, _, _, by subst e; exact gs⟩)))
  · exact h1.bkt.same k fun b' o' s' e => by cases e; exact hb
  · exact h2.same k fun b' o' s' e => by cases e; exact hb
theorem Whl.foot_lt {m : Mem} {n w s b : Nat} {M B : List Int} (h : Whl m n w s b M B) {i : Nat} (hi : Foot1 m w s b i) : i < n := by
  obtain ⟨ma, mc, o, sp, h1, h2⟩ := h.st
  have hb := (h2.bnd rfl).2
  have := h.lw
  have := h.ls
  rcases hi with rfl | rfl | rfl | ⟨o', s', l, c, r, e⟩
  · assumption
  · assumption
  · assumption
  · rw [h1.get] at e
    simp only [Option.some.injEq, AObj.cells.injEq, List.cons.injEq, Value.slice.injEq, true_and, and_true] at e
    exact h1.mem.lt e.1.1
theorem RV.foot {m m' : Mem} {n n' w b : Nat} {M B : List Int} {ma : Option Addr} {mc o : Nat} {sp : Option Nat} (h : RV m n w b M B ma mc o sp) (k : n ≤ n') (hs : ∀ i, Foot2 m w b i → m'.get i = m.get i) : RV m' n' w b M B ma mc o sp := by
  have gs := h.get
  refine ⟨(hs w (.inl rfl)).trans gs, by have := h.lw; omega, ?_, ?_, h.mb, h.lm, h.big⟩
  · exact h.mem.same k fun b' o' s' e => hs b' (.inr (.inr ⟨o', s', _, _, _, by subst e; exact gs⟩))
  · exact h.ow.same k fun b' o' s' e => by cases e; exact hs b (.inr (.inl rfl))
theorem RV.foot_lt {m : Mem} {n w b : Nat} {M B : List Int} {ma : Option Addr} {mc o : Nat} {sp : Option Nat} (h : RV m n w b M B ma mc o sp) {i : Nat} (hi : Foot2 m w b i) : i < n := by
  have := h.lw
  have := h.apart.2
  rcases hi with rfl | rfl | ⟨o', s', l, c, r, e⟩
  · assumption
  · assumption
  · rw [h.get] at e
    simp only [Option.some.injEq, AObj.cells.injEq, List.cons.injEq, Value.slice.injEq, true_and, and_true] at e
    exact h.mem.lt e.1.1

/-- Both wheels, in the same state. -/
structure Two (m0 : Mem) (n0 : Nat) (m : Mem) (n w s b v c : Nat) (M B : List Int) : Prop where
  whl : Whl m n w s b M B
  rv : ∃ ma mc o sp, RV m n v c M B ma mc o sp
  inv : Inv M B
  d : ∀ i, Foot1 m w s b i → ¬ Foot2 m v c i
  lo : n0 ≤ s ∧ n0 ≤ b ∧ n0 ≤ v ∧ n0 ≤ c
  le : Le m0 n0 m n
  fs : Fs m n
theorem Foot1.of {m m' : Mem} {w s b i : Nat} (h : Foot1 m' w s b i) (e : m'.get s = m.get s) : Foot1 m w s b i := by
  rcases h with h | h | h | h
  · exact .inl h
  · exact .inr (.inl h)
  · exact .inr (.inr (.inl h))
  · exact .inr (.inr (.inr (h.of e)))
theorem Foot2.of {m m' : Mem} {w b i : Nat} (h : Foot2 m' w b i) (e : m'.get w = m.get w) : Foot2 m w b i := by
  rcases h with h | h | h
  · exact .inl h
  · exact .inr (.inl h)
  · exact .inr (.inr (h.of e))
def Foot (m : Mem) (w s b v c i : Nat) : Prop := Foot1 m w s b i ∨ Foot2 m v c i
/-- What leaves the blocks of both as they are. -/
theorem Two.keep {m0 m m' : Mem} {n0 n n' w s b v c : Nat} {M B : List Int} (h : Two m0 n0 m n w s b v c M B) (k : n ≤ n') (hs : ∀ i, Foot m w s b v c i → m'.get i = m.get i) (hl : ∀ i, i < n0 → m'.get i = m.get i) (hf : Fs m' n') : Two m0 n0 m' n' w s b v c M B := by
  obtain ⟨ma, mc, o, sp, hr⟩ := h.rv
  have e1 := hs s (.inl (.inr (.inl rfl)))
  have e2 := hs v (.inr (.inl rfl))
  refine ⟨h.whl.foot k fun i hi => hs i (.inl hi), ⟨ma, mc, o, sp, hr.foot k fun i hi => hs i (.inr hi)⟩, h.inv, fun i h1 h2 => h.d i (h1.of e1) (h2.of e2), h.lo, ⟨by have := h.le.le; omega, fun i hi => (hl i hi).trans (h.le.same i hi)⟩, hf⟩
theorem Two.foot_lt {m0 m : Mem} {n0 n w s b v c : Nat} {M B : List Int} (h : Two m0 n0 m n w s b v c M B) {i : Nat} (hi : Foot m w s b v c i) : i < n := by
  obtain ⟨ma, mc, o, sp, hr⟩ := h.rv
  rcases hi with hi | hi
  · exact h.whl.foot_lt hi
  · exact hr.foot_lt hi
theorem Two.more {m0 m m' : Mem} {n0 n n' w s b v c : Nat} {M B : List Int} (h : Two m0 n0 m n w s b v c M B) (k : Le m n m' n') (hf : Fs m' n') : Two m0 n0 m' n' w s b v c M B :=
  h.keep k.le (fun i hi => k.same i (h.foot_lt hi)) (fun i hi => k.same i (by have := h.le.le; omega)) hf
theorem Two.up {m0 m : Mem} {n0 n n' w s b v c : Nat} {M B : List Int} (h : Two m0 n0 m n w s b v c M B) (k : n ≤ n') : Two m0 n0 m n' w s b v c M B :=
  h.more (Le.refl.up k) (h.fs.up k)
theorem inv_setF {X M B : List Int} (h : Inv M B) (hb : B.length ≤ 256) : Inv (setF X M B).2.1 (setF X M B).2.2 := by
  unfold Sp.setF
  split
  · exact h
  split
  · exact h
  · rename_i h1 h2
    exact Inv.set (setErr_asc X none (by simpa using h1)) hb
theorem setF_len (X M B : List Int) : (setF X M B).2.2.length = B.length := by
  unfold Sp.setF
  split
  · rfl
  split
  · rfl
  · exact setB_length ..
/-- Setting both. -/
theorem Two.set {m0 m : Mem} {n0 n w s b v c : Nat} {M B X : List Int} (h : Two m0 n0 m n w s b v c M B) {xa ya : Option Addr} {xc yc : Nat} (hx : Sl m n xa xc (X.map vi)) (hy : Sl m n ya yc (X.map vi)) (hlX : X.length ≤ 1000)
    (hxd : ∀ x o s', xa = some ⟨x, o, s'⟩ → x ≠ s ∧ x ≠ b) (hyd : ∀ x o s', ya = some ⟨x, o, s'⟩ → x < n0) :
    ∃ m1 n1 m2 n2, Exact Try.prog fSpreadWheelSet [pp w, .slice xa X.length xc] m n (vi (setF X M B).1) m1 n1 ∧ Exact Try.prog fRef11WheelSet [pp v, .slice ya X.length yc] m1 n1 (vi (setF X M B).1) m2 n2 ∧
      Two m0 n0 m2 n2 w s b v c (setF X M B).2.1 (setF X M B).2.2 ∧ (∀ i, i < n → i ≠ s → i ≠ b → m1.get i = m.get i) ∧ (∀ i, i < n → i ≠ s → i ≠ b → i ≠ v → i ≠ c → m2.get i = m.get i) ∧ n ≤ n1 ∧ n1 ≤ n2 ∧ (∀ x, Foot m2 w s b v c x → x < n → Foot m w s b v c x) := by
  obtain ⟨ma, mc, o, sp, hr⟩ := h.rv
  obtain ⟨l1, l2, l3, l4⟩ := h.lo
  have hle := h.le.le
  obtain ⟨m1, n1, hp, run1⟩ := Set_c h.whl h.fs hx hlX (fun o' s' e => (hxd _ _ _ e).2 rfl) (fun o' s' e => (hxd _ _ _ e).1 rfl)
  have hne : ∀ i, Foot2 m v c i → i ≠ s ∧ i ≠ b := fun i hi => ⟨fun e => by subst e; exact h.d _ (.inr (.inl rfl)) hi, fun e => by subst e; exact h.d _ (.inr (.inr (.inl rfl))) hi⟩
  have hk1 : ∀ i, Foot2 m v c i → m1.get i = m.get i := fun i hi => hp.same i (hr.foot_lt hi) (hne i hi).1 (hne i hi).2
  have hr1 := hr.foot (m' := m1) hp.le hk1
  have hy1 : Sl m1 n1 ya yc (X.map vi) := hy.same hp.le fun b' o' s' e => by
    have := hyd _ _ _ e
    exact hp.same b' (by omega) (by omega) (by omega)
  obtain ⟨m2, n2, hq, run2⟩ := rset_c hr1 h.whl.pos hy1 hlX (fun o' s' e => by have := hyd _ _ _ e; omega) (fun o' s' e => by have := hyd _ _ _ e; omega)
  have hrp := hq.rp
  have hvn : v < n := hr.lw
  have hcn : c < n := hr.apart.2
  have e2 : m1.get v = m.get v := hk1 v (.inl rfl)
  -- the new blocks of the wheel, and those of the reference
  have f1 : ∀ i, Foot1 m1 w s b i → i < n → Foot1 m w s b i := fun i hi hl => by
    rcases hi with h | h | h | h'
    · exact .inl h
    · exact .inr (.inl h)
    · exact .inr (.inr (.inl h))
    · exact .inr (.inr (.inr (hp.old i h' hl)))
  have sv : s ≠ v ∧ s ≠ c ∧ b ≠ v ∧ b ≠ c ∧ w ≠ v ∧ w ≠ c := by
    have a1 := h.d s (.inr (.inl rfl))
    have a2 := h.d b (.inr (.inr (.inl rfl)))
    have a3 := h.d w (.inl rfl)
    exact ⟨fun e => a1 (.inl e), fun e => a1 (.inr (.inl e)), fun e => a2 (.inl e), fun e => a2 (.inr (.inl e)), fun e => a3 (.inl e), fun e => a3 (.inr (.inl e))⟩
  have hk2 : ∀ i, Foot1 m1 w s b i → m2.get i = m1.get i := fun i hi => by
    have hi1 := hp.whl.foot_lt hi
    have : i ≠ v ∧ i ≠ c := by
      rcases Nat.lt_or_ge i n with hl | hl
      · have := h.d i (f1 i hi hl)
        exact ⟨fun e => this (.inl e), fun e => this (.inr (.inl e))⟩
      · omega
    exact hrp.same i hi1 this.1 this.2
  have es : m2.get s = m1.get s := hk2 s (.inr (.inl rfl))
  have hlen : B.length ≤ 256 := h.whl.big
  have f2 : ∀ i, Foot2 m2 v c i → i < n1 → Foot2 m v c i := fun i hi hl => by
    rcases hi with h | h | h'
    · exact .inl h
    · exact .inr (.inl h)
    · exact .inr (.inr ((hrp.old i h' hl).of e2))
  refine ⟨m1, n1, m2, n2, run1, run2, ⟨hp.whl.foot hrp.le hk2, hq.rv, inv_setF h.inv hlen, fun i h1 h2 => ?_, h.lo, ⟨by have := hrp.le; have := hp.le; omega, fun i hi => ?_⟩, hrp.fs hp.fs⟩, fun i a1 a2 a3 => hp.same i a1 a2 a3, fun i a1 a2 a3 a4 a5 => ?_, hp.le, hrp.le, fun x hx hl => ?_⟩
  · have h1' := h1.of es
    have hi1 := hp.whl.foot_lt h1'
    have h2' := f2 i h2 hi1
    exact h.d i (f1 i h1' (hr.foot_lt h2')) h2'
  · rw [hrp.same i (by have := hp.le; omega) (by omega) (by omega), hp.same i (by omega) (by omega) (by omega)]
    exact h.le.same i hi
  · rw [hrp.same i (by have := hp.le; omega) a4 a5]; exact hp.same i a1 a2 a3
  · rcases hx with hx | hx
    · exact .inl (f1 x (hx.of es) hl)
    · exact .inr (f2 x hx (by have := hp.le; omega))
/-- New, of both. -/
theorem two_new {m : Mem} {n k : Nat} (hk : 0 < k) (hk2 : k ≤ 256) {Q : Value → Mem → Nat → Prop}
    (hq : ∀ m1 n1 m2 n2 w s b v c, Exact Try.prog fRef11New [.int .i64 (k : Int)] m1 n1 (.tuple ⟨[pp v, .int .i64 0]⟩) m2 n2 → Two m n m2 n2 w s b v c [] (List.replicate k (-1)) → Q (.tuple ⟨[pp w, .int .i64 0]⟩) m1 n1) : Wc Try.prog fSpreadNew [.int .i64 (k : Int)] m n Q := by
  refine Wc.after (New_c hk hk2 fun m1 n1 w s b hw hl h1 h2 h3 hm hf => ?_)
  obtain ⟨m2, n2, c, o, sp, q1, q2, q3, q4, run⟩ := rnew_c (m := m1) (n := n1) hk hk2
  have hlt : ∀ i, Foot1 m1 w s b i → i < n1 := fun i hi => hw.foot_lt hi
  have l1 := hl.le
  have hs1 := hw.ls
  have es : m2.get s = m1.get s := q3.same s hs1
  refine hq m1 n1 m2 n2 w s b n1 c run ⟨hw.le q3, ⟨_, _, _, _, q1⟩, inv_init k, fun i h1 h2 => ?_, ⟨h2, h3, by omega, by omega⟩, hl.trans q3, q4 hf⟩
  have hi := hlt i (h1.of es)
  rcases h2 with h2 | h2 | ⟨o', s', l, c', r, e⟩
  · omega
  · omega
  · rw [q1.get] at e
    simp at e
/-- Copy, of both; what happens to the old ones is no matter. -/
theorem Two.copy {m0 m : Mem} {n0 n w s b v c : Nat} {M B : List Int} (h : Two m0 n0 m n w s b v c M B) :
    ∃ m1 n1 m2 n2 m3 n3 w' s' b' v' c' e, Exact Try.prog fSpreadWheelCopy [pp w] m n (pp w') m1 n1 ∧ Exact Try.prog fRef11WheelCopy [pp v] m1 n1 (pp v') m2 n2 ∧ Exact Try.prog fSpreadWheelSet [pp w, .slice none 0 0] m2 n2 (vi e) m3 n3 ∧ Two m0 n0 m3 n3 w' s' b' v' c' M B := by
  obtain ⟨ma, mc, o, sp, hr⟩ := h.rv
  have hle := h.le.le
  obtain ⟨l1, l2, l3, l4⟩ := h.lo
  obtain ⟨m1, n1, w', s', b', hw1, a1, a2, a3, hm1, le1, fs1, run1⟩ := Copy_c h.whl h.fs
  have k1 := le1.le
  obtain ⟨m2, n2, v', c', ma', mc', o', sp', hr2, b1, b2, hm2, le2, fs2, run2⟩ := rcopy_c (hr.le le1) h.whl.pos fs1
  have k2 := le2.le
  have hw2 := hw1.le le2
  have hs1 := hw1.ls
  have hb1 := hw1.cellb.1
  have hwl1 := hw1.lw
  have es2 : m2.get s' = m1.get s' := le2.same s' hs1
  have hold := (h.whl.le le1).le le2
  obtain ⟨m3, n3, hp, run3⟩ := Set_c (X := []) hold fs2 (xa := none) (xc := 0) Sl.nil (by simp) (fun _ _ e => nomatch e) (fun _ _ e => nomatch e)
  have hsn := h.whl.ls
  have hbn := h.whl.cellb.1
  have g1 : ∀ i, Foot1 m2 w' s' b' i → n ≤ i := fun i hi => by
    rcases hi.of es2 with h | h | h | h
    · omega
    · omega
    · omega
    · exact hm1 i h
  have g2 : ∀ i, Foot2 m2 v' c' i → n1 ≤ i := fun i hi => by
    rcases hi with h | h | h
    · omega
    · omega
    · exact hm2 i h
  have hk3 : ∀ i, n ≤ i → i < n2 → m3.get i = m2.get i := fun i h1 h2 => hp.same i h2 (by omega) (by omega)
  have es3 : m3.get s' = m2.get s' := hk3 s' (by omega) (by omega)
  have hv2 := hr2.lw
  have ev3 : m3.get v' = m2.get v' := hk3 v' (by omega) (by omega)
  refine ⟨m1, n1, m2, n2, m3, n3, w', s', b', v', c', _, run1, run2, run3, ⟨hw2.foot hp.le fun i hi => hk3 i (g1 i hi) (hw2.foot_lt hi), ⟨_, _, _, _, hr2.foot hp.le fun i hi => hk3 i (by have := g2 i hi; omega) (hr2.foot_lt hi)⟩, h.inv, fun i h1 h2 => ?_, ⟨by omega, by omega, by omega, by omega⟩, ⟨by have := hp.le; omega, fun i hi => ?_⟩, hp.fs⟩⟩
  · have h1' := (h1.of es3).of es2
    have h2' := g2 i (h2.of ev3)
    have := hw1.foot_lt h1'
    omega
  · rw [hp.same i (by omega) (by omega) (by omega), le2.same i (by omega), le1.same i (by omega)]; exact h.le.same i hi
end Go.Proofs.Ytblijemhmpfihaa

namespace Go.Proofs.Ytblijemhmpfihaa
open Go Go.Ab Sp

theorem wrap_u (x : Int) : 0 ≤ IntKind.u64.wrap x := by
  unfold IntKind.wrap
  simp only [IntKind.bits, IntKind.signed]
  have : (0 : Int) ≤ x % (2 ^ 64 : Int) := Int.emod_nonneg _ (by decide)
  simpa using this
/-- A write to a block of one's own. -/
theorem Two.wrote {m0 m m' : Mem} {n0 n w s b v c x : Nat} {M B : List Int} (h : Two m0 n0 m n w s b v c M B) (hx : n0 ≤ x) (hxn : x < n) (hd : ∀ i, Foot m w s b v c i → i ≠ x) (hs : ∀ i, i ≠ x → m'.get i = m.get i) :
    Two m0 n0 m' n w s b v c M B ∧ ∀ i, Foot m' w s b v c i → Foot m w s b v c i := by
  have e1 := hs s (hd s (.inl (.inr (.inl rfl))))
  have e2 := hs v (hd v (.inr (.inl rfl)))
  refine ⟨h.keep (Nat.le_refl _) (fun i hi => hs i (hd i hi)) (fun i hi => hs i (by omega)) (fun i hi => (hs i (by omega)).trans (h.fs i hi)), fun i hi => ?_⟩
  rcases hi with hi | hi
  · exact .inl (hi.of e1)
  · exact .inr (hi.of e2)

@[reducible] noncomputable def frS1 (w v : Nat) (hash : Int) (pa : Option Addr) (lm : Nat) (i : Int) : AFrame :=
  { fn := fLaw11same, nt := 102, slots := [(0, pp w), (1, pp v), (2, .int .u64 hash), (8, .slice pa lm lm), (10, .int .i64 i)], todo := pt Try.prog fLaw11same [1, 1, 1, 1, 0, 1, 0, 0] }
theorem same_b {m0 : Mem} {n0 n lo w s b v c : Nat} {M B : List Int} {hash : Int} {ba pa : Option Addr} {len lm : Nat} (hl : len ≤ 1000) (hlo : n0 ≤ lo) {Q : Value → Mem → Nat → Prop} (hne : ∀ x o s' y o2 s2, ba = some ⟨x, o, s'⟩ → pa = some ⟨y, o2, s2⟩ → y ≠ x)
    (hq : ∀ m cs, Two m0 n0 m n w s b v c M B → (∀ i, Foot m w s b v c i → i < lo) → Ow m lo n tInt 1 pa lm lm cs → W Try.prog (frS1 w v hash pa lm 0) m n Q) :
    ∀ l j m cs ds, j + l = len → Two m0 n0 m n w s b v c M B → (∀ i, Foot m w s b v c i → i < lo) → Ow m lo n tInt 1 ba len len ds → Ow m lo n tInt 1 pa lm lm cs →
      W Try.prog { fn := fLaw11same, nt := 102, slots := [(0, pp w), (1, pp v), (2, .int .u64 hash), (7, .slice ba len len), (8, .slice pa lm lm), (9, .int .i64 (j : Nat))], todo := pt Try.prog fLaw11same [1, 1, 1, 0, 1, 0, 0] } m n Q := by
  intro l
  induction l with
  | zero =>
    intro j m cs ds hj ht hf ho hp
    refine W_of mixed (cfg := xcfg) (fuel := 400) ?_
    rw [xLaw11samek0]
    exact condDF (by omega) (hq m cs ht hf hp)
  | succ l ih =>
    intro j m cs ds hj ht hf ho hp
    refine W_of mixed (cfg := xcfg) (fuel := 400) ?_
    rw [xLaw11samek0]
    have hds : ds.length = len := by have := ho.2.1; omega
    obtain ⟨x, o, s', m1, e, g1, g2, g3, g4, g5, g6, g7⟩ := ho.store (j := j) (vs := [vi (-77)]) (by simp; omega) (by simp [cellOk]) (by simp)
    subst e
    have hw := wrapN (k := j) (by omega)
    obtain ⟨ht1, hf1⟩ := ht.wrote (by omega) g2 (fun i hi => by have := hf i hi; omega) g7
    have nxt := ih (j + 1) m1 cs _ (by omega) ht1 (fun i hi => hf i (hf1 i hi)) g6 (hp.same (Nat.le_refl _) fun y o2 s2 e => g7 y (hne _ _ _ _ _ _ rfl e))
    rw [← hw] at nxt
    exact condDT (by omega) ⟨⟨by omega, by omega, g3, g4⟩, m1, by simpa using g5, nxt⟩
theorem same_m {m0 : Mem} {n0 lo w s b v c : Nat} {M B : List Int} {hash : Int} {pa : Option Addr} (hlo : n0 ≤ lo) (hash0 : 0 ≤ hash) {Q : Value → Mem → Nat → Prop}
    (hq : ∀ m n, Two m0 n0 m n w s b v c M B → Q (.bool true) m n) :
    ∀ l j m n cs, j + l = M.length → Two m0 n0 m n w s b v c M B → (∀ i, Foot m w s b v c i → i < lo) → Ow m lo n tInt 1 pa M.length M.length cs → W Try.prog (frS1 w v hash pa M.length (j : Nat)) m n Q := by
  intro l
  induction l with
  | zero =>
    intro j m n cs hj ht hf ho
    refine W_of mixed (cfg := xcfg) (fuel := 400) ?_
    rw [xLaw11samek1]
    obtain ⟨ma, mc, o, sp, hr⟩ := ht.rv
    have hn1 : loadP B (-1) = 0 := by simp [loadP]
    have hn2 : loadP B 128 = 0 := by
      have : (128 : Int) ∉ B := fun hb => by
        by_cases hM : M = []
        · have := ht.inv.none hM 128 hb; omega
        · have h1 := (ht.inv.all hM).1 128 hb
          have := (ht.inv.asc.2 128 h1).2; omega
      simp [loadP, ld, List.count_eq_zero.2 this]
    refine condDF (by omega) (Pick_c ht.whl hash0 ⟨_, _, rfl, Later.mk (rpick_c hr ht.whl.pos hash0 ⟨_, _, rfl, Later.mk (condET rfl (condT (beq_self_eq_true _) ?_))⟩)⟩)
    refine Load_c ht.whl ⟨_, rfl, Later.mk (condET hn1 (Load_c ht.whl ⟨_, rfl, Later.mk ?_⟩))⟩
    rw [hn2]
    exact hq m n ht
  | succ l ih =>
    intro j m n cs hj ht hf ho
    refine W_of mixed (cfg := xcfg) (fuel := 400) ?_
    rw [xLaw11samek1]
    obtain ⟨ma, mc, o, sp, hr⟩ := ht.rv
    have hlm := hr.lm
    have hcs : cs.length = M.length := by have := ho.2.1; omega
    have ht19 := ht.up (n' := n + 19) (by omega)
    have hr19 := hr.up (n' := n + 19) (by omega)
    obtain ⟨x, o1, s1, m1, e, g1, g2, g3, g4, g5, g6, g7⟩ := (ho.same (n' := n + 19) (by omega) fun _ _ _ _ => rfl).store (j := j) (vs := [vi (-77)]) (by simp; omega) (by simp [cellOk]) (by simp)
    subst e
    have hw := wrapN (k := j) (by omega)
    obtain ⟨ht1, hf1⟩ := ht19.wrote (by omega) g2 (fun i hi => by have := hf i hi; omega) g7
    have nxt := ih (j + 1) m1 (n + 19) _ (by omega) ht1 (fun i hi => hf i (hf1 i hi)) g6
    rw [← hw] at nxt
    have hjl : j < M.length := by omega
    obtain ⟨b0, o0, s0, e0, q1, q2, q3⟩ := hr.mem.at (j := j) (v := vi M[j]) (by simp)
    subst e0
    refine condDT (by omega) ⟨isC_of hr.get, _, _, _, rd_of hr.get rfl, ⟨by omega, by omega, q1, q2⟩, _, by simpa using q3, _, _, _, Load_c ht19.whl ⟨rfl, rfl, rfl⟩, Later.mk ?_⟩
    refine ⟨isC_of hr.get, _, _, _, rd_of hr.get rfl, ⟨by omega, by omega, q1, q2⟩, _, by simpa using q3, _, _, _, rload_c hr19 ⟨rfl, rfl, rfl⟩, Later.mk ?_⟩
    refine ⟨⟨_, by simpa using q3, rfl⟩, ⟨⟨by omega, by omega, q1, q2⟩, rfl⟩, ⟨_, _, _, rd_of hr.get rfl, rfl⟩, ⟨isC_of hr.get, rfl⟩, Nat.le_refl _, Nat.le_refl _, condNF rfl ?_⟩
    exact ⟨⟨by omega, by omega, g3, g4⟩, m1, by simpa using g5, nxt⟩
theorem same_c {m0 m : Mem} {n0 n w s b v c : Nat} {M B : List Int} {hash : Int} (h : Two m0 n0 m n w s b v c M B) (hash0 : 0 ≤ hash) {Q : Value → Mem → Nat → Prop}
    (hq : ∀ m n, Two m0 n0 m n w s b v c M B → Q (.bool true) m n) : Wc Try.prog fLaw11same [pp w, pp v, .int .u64 hash] m n Q := by
  refine Wc_of mixed (cfg := xcfg) (fuel := 400) ?_
  rw [xLaw11same]
  obtain ⟨ba, m2, n2, ow2, le2, fs2, run2⟩ := Buckets_c h.whl
  refine run2 _ ⟨_, _, _, rfl, Later.mk ?_⟩
  have h2 := h.more le2 (fs2 h.fs)
  obtain ⟨pa, m3, n3, ow3, le3, fs3, run3⟩ := Members_c h2.whl
  refine run3 _ ⟨_, _, _, rfl, Later.mk ?_⟩
  have h3 := h2.more le3 (fs3 h2.fs)
  obtain ⟨ma, mc, o, sp, hr⟩ := h3.rv
  have hbig := hr.big
  have hlm := hr.lm
  have k2 := le2.le
  have k3 := le3.le
  have hle := h.le.le
  refine ⟨isC_of hr.get, _, _, _, rd_of hr.get rfl, sameI_c (ow2.le le3).sl hr.ow.sl (by omega) ⟨_, rfl, Later.mk ?_⟩⟩
  refine condF (by simp) ⟨isC_of hr.get, _, _, _, rd_of hr.get rfl, sameI_c ow3.sl hr.mem (by omega) ⟨_, rfl, Later.mk ?_⟩⟩
  have le23 := le2.trans le3
  have es := le23.same s h.whl.ls
  obtain ⟨ma0, mc0, o0, sp0, hr0⟩ := h.rv
  have ev := le23.same v hr0.lw
  refine condF (by simp) (same_b (lo := n) (len := B.length) (lm := M.length) (m0 := m0) (n0 := n0) (s := s) (b := b) (c := c) (M := M) (B := B) (by omega) hle (fun x o s' y o2 s2 e1 e2 => ?_) (fun m cs ht hf ho => ?_) B.length 0 m3 _ _ (by omega) h3 (fun i hi => ?_) (ow2.le le3) (ow3.low k2))
  · have := ow2.bnd e1; have := ow3.bnd e2; omega
  · exact same_m hle hash0 hq M.length 0 m n3 cs (by omega) ht hf ho
  · rcases hi with hi | hi
    · exact h.foot_lt (.inl (hi.of es))
    · exact h.foot_lt (.inr (hi.of ev))
end Go.Proofs.Ytblijemhmpfihaa

namespace Go.Proofs.Ytblijemhmpfihaa
open Go Go.Ab
set_option maxRecDepth 1000000 in
theorem awake_run : allTrue (callK Try.prog (fun f => keeps[f]?) 1000000000 fLaw11awake [] .leaf 0) = true := by kernel_rfl
theorem awake_c {m : Mem} {n : Nat} {Q : Value → Mem → Nat → Prop} (hq : Q (.bool true) m n) : Wc Try.prog fLaw11awake [] m n Q := Wc.known (by kernel_rfl) awake_run hq
end Go.Proofs.Ytblijemhmpfihaa

namespace Go.Proofs.Ytblijemhmpfihaa
open Go Go.Ab Sp

@[reducible] noncomputable def frT0 (la : Option Addr) (ll lc : Nat) (hash : Int) (w v : Nat) (i : Int) : AFrame :=
  { fn := fLaw11SpreadSets, nt := 116, slots := [(1, .slice la ll lc), (2, .int .u64 hash), (7, pp w), (9, pp v), (11, .int .i64 i)], todo := pt Try.prog fLaw11SpreadSets [1, 1, 1, 1, 1, 1, 1, 0, 1, 0, 0] }
theorem sets_in {m0 : Mem} {n0 n w s b v c : Nat} {M B : List Int} {la ia : Option Addr} {ll lc len : Nat} {hash : Int} {i : Nat} (hi : i ≤ 100) (hl : len ≤ 1000) {Q : Value → Mem → Nat → Prop} (hq : ∀ m n, Two m0 n0 m n w s b v c M B → W Try.prog (frT0 la ll lc hash w v ((i + 1 : Nat) : Int)) m n Q) :
    ∀ l j m ds, j + l = len → Two m0 n0 m n w s b v c M B → (∀ x o s', ia = some ⟨x, o, s'⟩ → ∀ i, Foot m w s b v c i → i ≠ x) → Ow m n0 n tInt 1 ia len len ds →
      W Try.prog { fn := fLaw11SpreadSets, nt := 116, slots := [(1, .slice la ll lc), (2, .int .u64 hash), (7, pp w), (9, pp v), (11, .int .i64 (i : Nat)), (13, .slice ia len len), (16, .int .i64 (j : Nat))], todo := pt Try.prog fLaw11SpreadSets [1, 1, 1, 1, 1, 1, 1, 0, 1, 0, 0, 1, 0, 0, 1, 1, 1, 1, 1, 0, 1, 0, 0] } m n Q := by
  intro l
  induction l with
  | zero =>
    intro j m ds hj ht hd ho
    refine W_of mixed (cfg := xcfg) (fuel := 400) ?_
    rw [xLaw11SpreadSetsk2]
    have hw := wrapN (k := i) (by omega)
    refine condDF (by omega) (same_c ht (wrap_u _) fun m1 n1 ht1 => ⟨_, rfl, Later.mk (condF rfl ?_)⟩)
    rw [hw]
    exact hq m1 n1 ht1
  | succ l ih =>
    intro j m ds hj ht hd ho
    refine W_of mixed (cfg := xcfg) (fuel := 400) ?_
    rw [xLaw11SpreadSetsk2]
    have hds : ds.length = len := by have := ho.2.1; omega
    obtain ⟨x, o, s', m1, e, g1, g2, g3, g4, g5, g6, g7⟩ := ho.store (j := j) (vs := [vi (-9)]) (by simp; omega) (by simp [cellOk]) (by simp)
    subst e
    have hw := wrapN (k := j) (by omega)
    obtain ⟨ht1, hf1⟩ := ht.wrote g1 g2 (hd x o s' rfl) g7
    have nxt := ih (j + 1) m1 _ (by omega) ht1 (fun x2 o2 s2 e i hi => hd x2 o2 s2 e i (hf1 i hi)) g6
    rw [← hw] at nxt
    exact condDT (by omega) ⟨⟨by omega, by omega, g3, g4⟩, m1, by simpa using g5, nxt⟩
theorem sets_step {m0 m : Mem} {n0 n w s b v c : Nat} {M B : List Int} {rows : List Row} {la : Option Addr} {lc : Nat} {hash : Int} {i : Nat} (hx : Sl m0 n0 la lc (rows.flatMap encR)) (hr : Rows1 m0 n0 rows) (hlr : rows.length ≤ 12) (hi : i < rows.length) (hly : rows[i].xs.length ≤ 140)
    (ht : Two m0 n0 m n w s b v c M B) {Q : Value → Mem → Nat → Prop} (hq : ∀ m n M B, Two m0 n0 m n w s b v c M B → W Try.prog (frT0 la rows.length lc hash w v ((i + 1 : Nat) : Int)) m n Q) :
    W Try.prog { fn := fLaw11SpreadSets, nt := 116, slots := [(1, .slice la rows.length lc), (2, .int .u64 hash), (7, pp w), (9, pp v), (11, .int .i64 (i : Nat))], todo := pt Try.prog fLaw11SpreadSets [1, 1, 1, 1, 1, 1, 1, 0, 1, 0, 0, 1, 0, 0, 1, 1, 0] } m n Q := by
  refine W_of1 mixed (cfg := xcfg) (fuel := 400) ?_
  rw [xLaw11SpreadSetsk1]
  generalize hy : rows[i] = y at hly
  have hym : y ∈ rows := by rw [← hy]; exact List.getElem_mem _
  have hle0 := ht.le.le
  have hry := (hr.le ht.le) y hym
  have hry0 := hr y hym
  have hget : (rows.flatMap encR)[i]? = some (.slice y.a y.xs.length y.c) := by
    have := flatMap_get encR_len rows (i := i) (x := y) (by rw [List.getElem?_eq_getElem hi, hy]) 0 (by omega)
    simpa [encR] using this
  obtain ⟨b0, o0, s0, e0, q1, q2, q3⟩ := (hx.le ht.le).at hget
  have hb0 : b0 < n0 := hx.lt e0
  obtain ⟨ia, m1, n1, ow1, le1, fs1, run1⟩ := own_c hry (by omega)
  have k1 := le1.le
  have ht1 : Two m0 n0 m1 (n1 + 11) w s b v c M B := (ht.more le1 (fs1 ht.fs)).up (by omega)
  have hse := ht.lo
  have hsn := ht.whl.ls
  have hbn := ht.whl.cellb.1
  obtain ⟨m2, n2, m3, n3, run2, run3, ht3, same2, same3, k2, k3, foot3⟩ := ht1.set (X := y.xs) (xa := ia) (xc := y.xs.length) (ya := y.a) (yc := y.c) (ow1.sl.same (by omega) fun _ _ _ _ => rfl) ((hr.le ht1.le) y hym) (by omega) (fun x o s' e => by have := (ow1.bnd e).1; omega) (fun x o s' e => hry0.lt e)
  obtain ⟨d1, d2, d3, d4⟩ := hse
  have hm1 : m1.get b0 = m.get b0 := le1.same b0 (by omega)
  have hm2 : m2.get b0 = m1.get b0 := same2 b0 (by omega) (by omega) (by omega)
  have hm3 : m3.get b0 = m1.get b0 := same3 b0 (by omega) (by omega) (by omega) (by omega) (by omega)
  obtain ⟨b1, o1, s1, e1, u1, u2, u3⟩ := (hx.le ht1.le).at hget
  rw [e0] at e1
  cases e1
  have sl2 : Sl m2 n2 la lc (rows.flatMap encR) := (hx.le ht1.le).same k2 fun b' o' s' e => by have := hx.lt e; exact same2 b' (by omega) (by omega) (by omega)
  obtain ⟨b1, o1, s1, e1, v1, v2, v3⟩ := sl2.at hget
  rw [e0] at e1
  cases e1
  obtain ⟨b1, o1, s1, e1, t1, t2, t3⟩ := (hx.le ht3.le).at hget
  rw [e0] at e1
  cases e1
  subst e0
  refine ⟨⟨by omega, by omega, q1, q2⟩, _, _, _, by simpa using q3, run1 _ ⟨_, _, _, rfl, Later.mk ⟨_, _, _, run2 _ ⟨rfl, rfl, rfl⟩, Later.mk ?_⟩⟩⟩
  refine ⟨⟨by omega, by omega, v1, v2⟩, _, _, _, by simpa using v3, _, _, _, run3 _ ⟨rfl, rfl, rfl⟩, Later.mk ?_⟩
  refine ⟨⟨_, _, _, by simpa using u3, rfl⟩, ⟨⟨by omega, by omega, u1, u2⟩, rfl⟩, by omega, by omega, condNF rfl ?_⟩
  refine ⟨⟨by omega, by omega, t1, t2⟩, _, _, _, by simpa using t3, ?_⟩
  -- what went in is as it was
  have hin : ∀ x o s', ia = some ⟨x, o, s'⟩ → ∀ j, Foot m3 w s b v c j → j ≠ x := fun x o s' e j hj e' => by
    subst e'
    have hb := ow1.bnd e
    have f1 := foot3 j hj (by omega)
    have es := le1.same s ht.whl.ls
    obtain ⟨ma0, mc0, o0', sp0, hr0⟩ := ht.rv
    have ev := le1.same v hr0.lw
    have : Foot m w s b v c j := by
      rcases f1 with f1 | f1
      · exact .inl (f1.of es)
      · exact .inr (f1.of ev)
    have := ht.foot_lt this
    omega
  have ow3 : Ow m3 n0 n3 tInt 1 ia y.xs.length y.xs.length (y.xs.map vi) := (ow1.low (n' := n0) (by omega)).same (by omega) fun x o s' e => by
    have hb := ow1.bnd e
    have hd := hin x o s' e
    exact same3 x (by omega) (fun e' => hd s (.inl (.inr (.inl rfl))) e'.symm) (fun e' => hd b (.inl (.inr (.inr (.inl rfl)))) e'.symm) (fun e' => hd v (.inr (.inl rfl)) e'.symm) (fun e' => hd c (.inr (.inr (.inl rfl))) e'.symm)
  refine sameI_c ow3.sl ((hr.le ht3.le) y hym) (by omega) ⟨_, rfl, Later.mk (condF (by simp) ?_)⟩
  exact sets_in (by omega) (by omega) (fun m' n' h' => hq m' n' _ _ h') y.xs.length 0 m3 _ (by omega) ht3 hin ow3
theorem sets_loop {m0 : Mem} {n0 : Nat} {rows : List Row} {la : Option Addr} {lc : Nat} {hash : Int} (hx : Sl m0 n0 la lc (rows.flatMap encR)) (hr : Rows1 m0 n0 rows) (hlr : rows.length ≤ 12) {Q : Value → Mem → Nat → Prop} (hq : ∀ m n, Q (.bool true) m n) :
    ∀ l i m n w s b v c M B, i + l = rows.length → Two m0 n0 m n w s b v c M B → W Try.prog (frT0 la rows.length lc hash w v (i : Nat)) m n Q := by
  intro l
  induction l with
  | zero =>
    intro i m n w s b v c M B hi ht
    refine W_of mixed (cfg := xcfg) (fuel := 400) ?_
    rw [xLaw11SpreadSetsk0]
    exact condDF (by omega) (awake_c ⟨_, rfl, Later.mk (hq _ _)⟩)
  | succ l ih =>
    intro i m n w s b v c M B hi ht
    refine W_of mixed (cfg := xcfg) (fuel := 400) ?_
    rw [xLaw11SpreadSetsk0]
    have hlt : i < rows.length := by omega
    refine condDT (by omega) (Sl.ldr (hx.le ht.le) hlt ?_)
    refine condD (fun _ => awake_c ⟨_, rfl, Later.mk (hq _ _)⟩) fun hly => ⟨by decide, condE (fun _ => ?_) fun _ => ?_⟩
    · obtain ⟨m1, n1, m2, n2, m3, n3, w', s', b', v', c', e, run1, run2, run3, ht3⟩ := ht.copy
      refine run1 _ ⟨_, rfl, Later.mk (run2 _ ⟨_, rfl, Later.mk (run3 _ ⟨_, rfl, Later.mk ?_⟩)⟩)⟩
      exact sets_step hx hr hlr hlt (by omega) ht3 fun m n M B h => ih (i + 1) m n _ _ _ _ _ M B (by omega) h
    · exact sets_step hx hr hlr hlt (by omega) ht fun m n M B h => ih (i + 1) m n _ _ _ _ _ M B (by omega) h
theorem sets_law {m : Mem} {n : Nat} {rows : List Row} {la : Option Addr} {lc : Nat} {x hash : Int} {Q : Value → Mem → Nat → Prop} (hx : Sl m n la lc (rows.flatMap encR)) (hr : Rows1 m n rows) (h0 : 0 ≤ hash) (hq : ∀ m' n', Q (.bool true) m' n') :
    Wc Try.prog fLaw11SpreadSets [.int .i64 x, .slice la rows.length lc, .int .u64 hash] m n Q := by
  refine Wc_of mixed (cfg := xcfg) (fuel := 400) ?_
  rw [xLaw11SpreadSets]
  refine condD (fun _ => awake_c ⟨_, rfl, Later.mk (hq _ _)⟩) fun hlr => ?_
  by_cases hb : x < 1 ∨ x > 256
  · refine bad_new hb ⟨_, _, rfl, Later.mk (bad_rnew hb ⟨_, _, rfl, Later.mk ?_⟩)⟩
    exact condNF rfl (condF rfl (condT rfl (awake_c ⟨_, rfl, Later.mk (hq _ _)⟩)))
  · obtain ⟨k, rfl⟩ : ∃ k : Nat, x = k := ⟨x.toNat, by omega⟩
    refine two_new (by omega) (by omega) fun m1 n1 m2 n2 w s b v c run ht => ⟨_, _, rfl, Later.mk (run _ ⟨_, _, rfl, Later.mk ?_⟩)⟩
    refine condNF rfl (condF rfl (condF rfl (same_c ht h0 fun m3 n3 ht3 => ⟨_, rfl, Later.mk (condF rfl ?_)⟩)))
    exact sets_loop hx hr (by omega) hq rows.length 0 m3 n3 w s b v c _ _ (by omega) ht3
theorem undU64 : Try.prog.underlying tUint64 = some (.int .u64) := by kernel_rfl
theorem wf_u64 {x : Int} (h : (Lit.int .u64 x).wf = true) : 0 ≤ x := by
  simp only [Lit.wf, Bool.and_eq_true, decide_eq_true_eq] at h
  have e : IntKind.u64.min = 0 := by decide
  omega
set_option maxRecDepth 1000000 in
theorem spreadSets_main (m : Mem) (n : Nat) (ars : List Value) (hl : ars.length = ([3, 35, 28] : List TypeId).length) (ht : ∀ (j : Nat) t a, ([3, 35, 28] : List TypeId)[j]? = some t → ars[j]? = some a → TyV Try.prog m t a)
    (_ : ∀ i o, m.get i = some o → own o = false) (hfresh : ∀ i, n ≤ i → m.get i = none) : Wc Try.prog fLaw11SpreadSets ars m n fun v _ _ => v = .bool true := by
  match ars, hl with
  | [a, b, c], _ =>
    have ha : TyV Try.prog m tInt a := ht 0 3 a (by simp) (by simp)
    have hb : TyV Try.prog m tLLint b := ht 1 35 b (by simp) (by simp)
    have hc : TyV Try.prog m tUint64 c := ht 2 28 c (by simp) (by simp)
    obtain ⟨x, rfl, _⟩ := TyV.int undInt ha
    obtain ⟨hash, rfl, h4⟩ := TyV.int undU64 hc
    obtain ⟨la, rows, lc, rfl, h1, h2, h3⟩ := lists_of hfresh hb
    exact sets_law h1 h2 (wf_u64 h4) fun _ _ => rfl
end Go.Proofs.Ytblijemhmpfihaa
