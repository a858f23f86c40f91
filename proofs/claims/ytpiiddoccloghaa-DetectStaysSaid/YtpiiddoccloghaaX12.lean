/- X12: what parts of the program compute; helper of the claim. -/
import Derived.Test.YtpiiddoccloghaaV12
namespace Go.Proofs.Ytpiiddoccloghaa
open Go Go.Ab

theorem end_law {d : D} {mult T many now : Int} (hT : 0 ≤ T ∧ T ≤ 1000000) (hm : 1 ≤ mult ∧ mult ≤ 1000) (hmany : 0 ≤ many ∧ many ≤ 1000000) (hok : d.ok) (hn : now = T + (mult + 1)) (h : FailSt d mult T many (mult + 1)) :
    d.ups now [true, true] = [false, true] ∧ (d.run now [true, true]).changes = many + 2 ∧ (d.run now [true, true]).since = now + 1 := by
  obtain ⟨h1, h2, h3, h4, h5, h6⟩ := h
  have hx : ¬ mult + 1 ≤ mult := by omega
  rw [if_neg hx] at h2 h5
  have hh := h6 (by omega)
  have hc1 : d.chg now true = false := by simp only [D.chg, h2, if_true, D.rise, h4, hh]; rfl
  have hup := two_up hok (t := now) (by omega)
  have hm1 : (d.next now true).mode = 0 := by
    show (if d.chg now true then IntKind.i64.wrap (1 - d.mode) else d.mode) = 0
    rw [hc1]; exact h2
  have hc2 : (d.next now true).chg (now + 1) true = true := by
    have := D.next_up (D.next_ok hok now true) (now + 1) true
    rw [this, hup, hm1]; rfl
  have hch1 : (d.next now true).changes = many + 1 := by
    show (if d.chg now true then IntKind.i64.wrap (d.changes + 1) else d.changes) = many + 1
    rw [hc1]; exact h5
  have wm : IntKind.i64.wrap (many + 1 + 1) = many + 2 := by rw [wrap_id (by omega) (by omega)]; omega
  refine ⟨?_, ?_, ?_⟩
  · simp only [D.ups, hup, hm1]; rfl
  · show (if (d.next now true).chg (now + 1) true then IntKind.i64.wrap ((d.next now true).changes + 1) else (d.next now true).changes) = many + 2
    rw [hc2, hch1]; exact wm
  · show (if (d.next now true).chg (now + 1) true then now + 1 else (d.next now true).since) = now + 1
    rw [hc2]; rfl

@[reducible] noncomputable def fr5 (mult : Int) (w : Nat) (now many i : Int) : AFrame :=
  { fn := 5, nt := 121, slots := [(0, .int .i64 mult), (7, .bool true), (8, pp w), (12, .int .i64 now), (13, .int .i64 many), (14, .int .i64 i)], todo := pt Try.prog 5 [1, 1, 1, 1, 1, 1, 1, 1, 1, 1, 1, 0, 1, 0, 0] }
theorem fails_loop {w s : Nat} {mult T many : Int} {Q : Value → Mem → Nat → Prop} (hT : 0 ≤ T ∧ T ≤ 1000000) (hm : 1 ≤ mult ∧ mult ≤ 1000) (hmany : 0 ≤ many ∧ many ≤ 1000000) (hq : ∀ m' n', Q (.bool true) m' n') :
    ∀ (j : Nat) (i : Int) (d : D) (m : Mem) (n : Nat), i + j = mult + 1 → 1 ≤ i → Wat m w s d → d.ok → FailSt d mult T many i → W Try.prog (fr5 mult w (T + i) many i) m n Q := by
  intro j
  induction j with
  | zero =>
    intro i d m n hi hi1 hw hok hst
    obtain rfl : i = mult + 1 := by omega
    refine W.fresh fun hfresh => W_of mixed (cfg := d12xcfg) (fuel := 400) ?_
    rw [d12x5k0]
    have h0 : ¬ (mult + 1 ≤ mult) := by omega
    simp only [decide_eq_false h0, cond_false]
    obtain ⟨e1, e2, e3⟩ := end_law hT hm hmany hok rfl hst
    have hnew : Made (m.set n (.cells none 4 1 [.bool true, .bool true])) 4 1 (some ⟨n, 0, none⟩) 2 2 ([true, true].map .bool) := ⟨n, rfl, rfl, rfl, by simp [-Bool.exists_bool, Tr.get_set]⟩
    have hw' : Wat (m.set n (.cells none 4 1 [.bool true, .bool true])) w s d := hw.same fun i T' sz cs hi _ => by
      have : ¬ n = i := by have := lt_of_get hfresh hi; omega
      simp [-Bool.exists_bool, Tr.get_set, this]
    refine Wc.after (ticks_c (bs := [true, true]) hw' hok (by intro x hx; rw [hst.hlast] at hx; cases hx; omega) (by omega) hnew.view (by simp [-Bool.exists_bool]) (by simp; omega) fun m1 n1 a c hw1 hown hab hfr hf1 => ⟨_, _, _, _, rfl, Later.mk ?_⟩)
    rw [e1] at hown
    have hs1 : ∀ i, i < n1 → (m1.set n1 (.cells none 4 1 [.bool false, .bool true])).get i = m1.get i := fun i hi => by
      have : ¬ n1 = i := by omega
      simp [-Bool.exists_bool, Tr.get_set, this]
    have hnew2 : Made (m1.set n1 (.cells none 4 1 [.bool false, .bool true])) 4 1 (some ⟨n1, 0, none⟩) 2 2 ([false, true].map .bool) := ⟨n1, rfl, rfl, rfl, by simp [-Bool.exists_bool, Tr.get_set]⟩
    have hv1 : View (m1.set n1 (.cells none 4 1 [.bool false, .bool true])) 4 a c ([false, true].map .bool) := hown.view.same fun b o hb _ _ => hs1 b (lt_of_get hf1 hb)
    have hw2 : Wat (m1.set n1 (.cells none 4 1 [.bool false, .bool true])) w s (d.run (T + (mult + 1)) [true, true]) := hw1.same fun i _ _ _ hi _ => hs1 i (lt_of_get hf1 hi)
    simp only [cond_true]
    refine same_c (xs := [false, true]) (ys := [false, true]) hv1 hnew2.view rfl (by simp [-Bool.exists_bool]) fun n2 => ⟨_, rfl, Later.mk ?_⟩
    simp only [beq_self_eq_true, cond_true]
    refine changes_c hw2 ⟨_, rfl, Later.mk ?_⟩
    have wm : IntKind.i64.wrap (many + 2) = many + 2 := wrap_id (by omega) (by omega)
    have wn : IntKind.i64.wrap (T + (mult + 1) + 1) = T + (mult + 1) + 1 := wrap_id (by omega) (by omega)
    rw [e2, wm]
    simp only [beq_self_eq_true, cond_true]
    refine since_c hw2 ⟨_, rfl, Later.mk ?_⟩
    rw [e3, wn]
    simp only [beq_self_eq_true]
    exact hq _ _
  | succ j ih =>
    intro i d m n hi hi1 hw hok hst
    obtain ⟨herr, hchg, hst'⟩ := fail_step hT hm hmany ⟨hi1, by omega⟩ hst
    refine W_of mixed (cfg := d12xcfg) (fuel := 400) ?_
    rw [d12x5k0]
    have h0 : i ≤ mult := by omega
    simp only [decide_eq_true h0, cond_true]
    refine tick_c hw hok.mode fun m1 n1 hw1 hfr => ⟨_, _, rfl, Later.mk ?_⟩
    have hout : d.out (T + i) false = decide (i = mult) := by rw [D.out, if_pos herr, hchg]
    rw [D.tick, if_pos herr] at hw1
    rw [herr, hout]
    have hb : (!(decide (i = mult) == (i == mult))) = false := by by_cases hx : i = mult <;> simp [-Bool.exists_bool, hx]
    simp only [bne_self_eq_false, cond_false, hb]
    refine up_c hw1 ⟨_, rfl, Later.mk ?_⟩
    have hb2 : (((d.next (T + i) false).mode == 1) == decide (i = mult)) = false := by
      rw [hst'.hmode]
      by_cases hx : i = mult
      · have : ¬ i + 1 ≤ mult := by omega
        rw [if_neg this, decide_eq_true hx]; rfl
      · have : i + 1 ≤ mult := by omega
        rw [if_pos this, decide_eq_false hx]; rfl
    simp only [hb2, cond_false]
    have w1 : IntKind.i64.wrap (T + i + 1) = T + (i + 1) := by rw [wrap_id (by omega) (by omega)]; omega
    have w2 : IntKind.i64.wrap (i + 1) = i + 1 := wrap_id (by omega) (by omega)
    rw [w1, w2]
    exact ih (i + 1) _ m1 n1 (by omega) (by omega) hw1 (D.next_ok hok _ _) hst'
end Go.Proofs.Ytpiiddoccloghaa
