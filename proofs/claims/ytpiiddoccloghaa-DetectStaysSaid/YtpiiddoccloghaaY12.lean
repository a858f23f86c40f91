/- Y12: what parts of the program compute; helper of the claim. -/
import Derived.Test.YtpiiddoccloghaaX12
namespace Go.Proofs.Ytpiiddoccloghaa
open Go Go.Ab

theorem changes_run : ∀ (l : List Bool) (d : D) (t : Int), 0 ≤ d.changes ∧ d.changes + l.length ≤ 1000000 → 0 ≤ (d.run t l).changes ∧ (d.run t l).changes ≤ d.changes + l.length
  | [], d, t, h => ⟨h.1, by simp [-Bool.exists_bool, D.run]⟩
  | b :: l, d, t, h => by
    have hlen : ((b :: l).length : Int) = l.length + 1 := by simp [-Bool.exists_bool]
    have hw : IntKind.i64.wrap (d.changes + 1) = d.changes + 1 := wrap_id (by omega) (by omega)
    have hn : (d.next t b).changes = if d.chg t b then d.changes + 1 else d.changes := by
      show (if d.chg t b then IntKind.i64.wrap (d.changes + 1) else d.changes) = _
      rw [hw]
    have hb : d.changes ≤ (d.next t b).changes ∧ (d.next t b).changes ≤ d.changes + 1 := by rw [hn]; split <;> omega
    have := changes_run l (d.next t b) (t + 1) ⟨by omega, by omega⟩
    simp only [D.run]
    omega
theorem run_ok : ∀ (l : List Bool) (d : D) (t : Int), d.ok → (d.run t l).ok
  | [], _, _, h => h
  | b :: l, _, t, h => run_ok l _ _ (D.next_ok h t b)
theorem run_mult : ∀ (l : List Bool) (d : D) (t : Int), (d.run t l).mult = d.mult
  | [], _, _ => rfl
  | b :: l, d, t => run_mult l (d.next t b) (t + 1)

theorem append_mo {t e sz l c k kc : Nat} {a x : Option Addr} {cs xs : List Value} {m : Mem} {n : Nat} (he : elemOk Try.prog t e sz = true) (h : Made m e sz a l c cs ∨ OwnA m e sz a l c cs) (hs : sliceCells m sz k (.slice x k kc) = some xs) (hk : 0 < k)
    (hc : xs.all cellOk = true) (hl : xs.length = k * sz) (hb : l + k ≤ 2 ^ 30) :
    ∃ m', appendA Try.prog m n t t (.slice a l c) (.slice x k kc) = .val (.slice (some ⟨n, 0, some 0⟩) (l + k) (l + k)) m' (n + 1) ∧ OwnA m' e sz (some ⟨n, 0, some 0⟩) (l + k) (l + k) (cs ++ xs) ∧
      ∀ i, i ≠ n → (∀ b o s, a = some ⟨b, o, s⟩ → i ≠ b) → m'.get i = m.get i := by
  rcases h with h | h
  · obtain ⟨h1, h2⟩ := append_made (n := n) he h hs hk hc hl hb
    exact ⟨_, h1, h2, fun i hi _ => by have : ¬ n = i := fun e => hi e.symm; simp [-Bool.exists_bool, Tr.get_set, this]⟩
  · obtain ⟨m', h1, h2, _, h4⟩ := append_own (n := n) he h hs hk hc hl hb
    exact ⟨m', h1, h2, fun i hi hx => h4 i hi fun b hb => hx b _ _ hb⟩

theorem fails_c {m : Mem} {n : Nat} {x y : Int} {bs : List Bool} {id cap : Nat} {nl : Bool} {Q : Value → Mem → Nat → Prop} (hg : m.get id = some (.cells (some nl) 4 1 (bs.map .bool))) (hq : ∀ m' n', Q (.bool true) m' n') :
    Wc Try.prog 5 [.int .i64 x, .slice (some ⟨id, 0, none⟩) bs.length cap, .int .i64 y] m n Q := by
  refine Wc.fresh (by kernel_rfl) fun hfresh => ?_
  refine Wc_of mixed (cfg := d12xcfg) (fuel := 400) ?_
  rw [d12x5]
  refine known_c ⟨_, rfl, Later.mk ?_⟩
  by_cases hl : ((bs.length : Nat) : Int) > 60
  · simp only [decide_eq_true hl, cond_true]; exact hq _ _
  simp only [decide_eq_false hl, cond_false]
  have hx := pickM_range (x := x) (n := 60) (by omega) (by omega)
  have hy := pickM_range (x := y) (n := 1000) (by omega) (by omega)
  refine pick_c (by omega) ⟨_, rfl, Later.mk ?_⟩
  refine pick_c (by omega) ⟨_, rfl, Later.mk ?_⟩
  have hwm : IntKind.i64.wrap (1 + pickM x 60) = 1 + pickM x 60 := wrap_id (by omega) (by omega)
  rw [hwm]
  have hm : 1 ≤ 1 + pickM x 60 ∧ 1 + pickM x 60 ≤ 1000 := by omega
  generalize 1 + pickM x 60 = mult at hm ⊢
  generalize pickM y 1000 = t at hy ⊢
  refine Wc.after (new_c hm fun m1 n1 w s hw hnw hns hfr hf1 => ⟨_, _, rfl, Later.mk ?_⟩)
  simp only [bne_self_eq_false, cond_false, Option.isNone_some]
  have hid : id < n := lt_of_get hfresh hg
  have hg1 : m1.get id = some (.cells (some nl) 4 1 (bs.map .bool)) := (hfr.2 id hid (fun h => h)).trans hg
  have hcells : sliceCells m1 1 bs.length (.slice (some ⟨id, 0, none⟩) bs.length cap) = some (bs.map .bool) := by
    simp [-Bool.exists_bool, sliceCells, cellsOf, hg1, takeAt]
    exact List.take_of_length_le (by simp [-Bool.exists_bool])
  have hn1 := hfr.1
  refine Wc.after (own_c hcells (fun b o s e => by cases e; omega) (by omega) fun m2 n2 a c hfr2 hab hown hf2 => ⟨_, _, _, rfl, Later.mk ?_⟩)
  have hn2 := hfr2.1
  have hset : ∀ i, ¬ n2 = i → (m2.set n2 (.cells none 4 1 [.bool true, .bool true])).get i = m2.get i := fun i hi => by simp [-Bool.exists_bool, Tr.get_set, hi]
  have hown3 : Made (m2.set n2 (.cells none 4 1 [.bool true, .bool true])) 4 1 a bs.length c (bs.map .bool) ∨ OwnA (m2.set n2 (.cells none 4 1 [.bool true, .bool true])) 4 1 a bs.length c (bs.map .bool) := by
    rcases hown with ⟨i, h1, h2, h3, h4⟩ | h
    · exact .inl ⟨i, h1, h2, h3, (hset i (by have := (hab _ _ _ h1).2; omega)).trans h4⟩
    · exact .inr (h.same fun b hb => hset b (by have := (hab _ _ _ hb).2; omega))
  obtain ⟨m3, happ, hown4, hsame⟩ := append_mo (n := n2 + 1) (k := 2) (kc := 2) (x := some ⟨n2, 0, none⟩) (xs := [.bool true, .bool true]) bools hown3 (by simp [-Bool.exists_bool, sliceCells, cellsOf, Tr.get_set, takeAt]) (by omega) (by simp [-Bool.exists_bool, cellOk]) (by simp [-Bool.exists_bool]) (by omega)
  refine ⟨_, _, _, _, _, happ, ?_⟩
  have hkeep : ∀ i o, m1.get i = some o → i < n1 → m3.get i = some o := fun i o hi hlt => by
    rw [hsame i (by omega) fun b o' s' e => by have := (hab _ _ _ e).1; omega, hset i (by omega), hfr2.2 i hlt (fun h => h), hi]
  have hw3 : Wat m3 w s (D.init mult) := hw.same fun i T' sz cs hi _ => by rw [hkeep i _ hi (lt_of_get hf1 hi), hi]
  have hok : (D.init mult).ok := ⟨hm, .inl rfl⟩
  have hlist : bs.map Value.bool ++ [.bool true, .bool true] = (bs ++ [true, true]).map .bool := by simp [-Bool.exists_bool]
  have hlen : bs.length + 2 = (bs ++ [true, true]).length := by simp [-Bool.exists_bool]
  rw [hlist] at hown4
  have hv := hown4.view
  rw [hlen] at hv ⊢
  refine ticks_c hw3 hok (by intro x h; cases h) hy.1 hv (by simp; omega) (by simp; omega) fun m4 n4 a4 c4 hw4 _ _ _ => ⟨_, _, _, _, rfl, Later.mk ?_⟩
  simp only [Bool.not_true, cond_false]
  have hrun : (D.init mult).run t (bs ++ [true, true]) = (((D.init mult).run t bs).next (t + bs.length) true).next (t + bs.length + 1) true := by
    rw [D.run_append]; rfl
  rw [hrun] at hw4
  have hoke := run_ok bs (D.init mult) t hok
  have hup := two_up hoke (t := t + bs.length) (by omega)
  have hmu := run_mult bs (D.init mult) t
  have hch := changes_run (bs ++ [true, true]) (D.init mult) t ⟨by simp [-Bool.exists_bool, D.init], by simp [-Bool.exists_bool, D.init]; omega⟩
  rw [hrun] at hch
  have hok2 := D.next_ok (D.next_ok hoke (t + bs.length) true) (t + bs.length + 1) true
  have hlast : ((((D.init mult).run t bs).next (t + bs.length) true).next (t + bs.length + 1) true).last = some (t + bs.length + 1) := rfl
  have hat : ((((D.init mult).run t bs).next (t + bs.length) true).next (t + bs.length + 1) true).heardAt = t + bs.length + 1 := rfl
  have hmu2 : ((((D.init mult).run t bs).next (t + bs.length) true).next (t + bs.length + 1) true).mult = mult := hmu
  generalize (((D.init mult).run t bs).next (t + bs.length) true).next (t + bs.length + 1) true = d at *
  refine up_c hw4 ⟨_, rfl, Later.mk ?_⟩
  rw [hup]
  simp only [beq_self_eq_true, Bool.not_true, cond_false]
  refine changes_c hw4 ⟨_, rfl, Later.mk ?_⟩
  have hmany : 0 ≤ d.changes ∧ d.changes ≤ 1000000 := by
    refine ⟨hch.1, Int.le_trans hch.2 ?_⟩
    simp [-Bool.exists_bool, D.init]; omega
  have hw1 : IntKind.i64.wrap (IntKind.i64.wrap (t + bs.length) + 2) = t + bs.length + 1 + 1 := by
    rw [wrap_id (x := t + bs.length) (by omega) (by omega), wrap_id (by omega) (by omega)]; omega
  rw [hw1]
  exact fails_loop (T := t + bs.length + 1) (by omega) hm hmany hq mult.toNat 1 d m4 n4 (by omega) (by omega) hw4 hok2
    ⟨hmu2, by rw [if_pos hm.1]; exact hup, hat, by rw [hlast]; congr 1; omega, by rw [if_pos hm.1], fun h => absurd h (by decide)⟩
end Go.Proofs.Ytpiiddoccloghaa
