/- S12: what parts of the program compute; helper of the claim. -/
import Derived.Test.YtpiiddoccloghaaR12
namespace Go.Proofs.Ytpiiddoccloghaa
open Go Go.Ab

@[reducible] noncomputable def fr4 (mult : Int) (ha : Option Addr) (hl hc : Nat) (ok : Bool) (ua : Option Addr) (ul uc : Nat) (i : Int) : AFrame :=
  { fn := 4, nt := 88, slots := [(0, .int .i64 mult), (1, .slice ha hl hc), (7, .bool ok), (10, .slice ua ul uc), (12, .int .i64 i)], todo := pt Try.prog 4 [1, 1, 1, 1, 1, 1, 1, 1, 1, 0, 1, 0, 0] }
@[reducible] noncomputable def fr4k (mult : Int) (ha : Option Addr) (hl hc : Nat) (ok : Bool) (ua : Option Addr) (ul uc : Nat) (i : Int) (want : Bool) (silent k : Int) : AFrame :=
  { fn := 4, nt := 88, slots := [(0, .int .i64 mult), (1, .slice ha hl hc), (7, .bool ok), (10, .slice ua ul uc), (12, .int .i64 i), (13, .bool want), (14, .int .i64 silent), (15, .int .i64 k)],
    todo := pt Try.prog 4 [1, 1, 1, 1, 1, 1, 1, 1, 1, 0, 1, 0, 0, 1, 0, 0, 1, 0, 1, 0, 0] }
theorem runs_inner {hs us : List Bool} {ha ua : Option Addr} {hc uc : Nat} {mult : Int} {ok : Bool} {i : Nat} {m : Mem} {n : Nat} {Q : Value → Mem → Nat → Prop} (hm : 1 ≤ mult ∧ mult ≤ 1000) (hl : hs.length ≤ 200) (hi : i < hs.length)
    (hv : View m 4 ha hc (hs.map .bool)) (hu : View m 4 ua uc (us.map .bool)) (hul : us.length = hs.length) (hui : us[i]? = some (runsAt hs mult (i + 1)).1)
    (hq : W Try.prog (fr4 mult ha hs.length hc ok ua us.length uc ((i : Int) + 1)) m n Q) :
    ∀ j k, k + j = i + 1 → W Try.prog (fr4k mult ha hs.length hc ok ua us.length uc i (runsAt hs mult k).1 (runsAt hs mult k).2 k) m n Q := by
  intro j
  induction j with
  | zero =>
    intro k hk
    obtain rfl : k = i + 1 := by omega
    refine W_of mixed (cfg := d12xcfg) (fuel := 400) ?_
    rw [d12x4k1]
    have h0 : ¬ (((i + 1 : Nat) : Int) ≤ i) := by omega
    have hj : (us.map Value.bool)[i]? = some (.bool (runsAt hs mult (i + 1)).1) := by simp [-Bool.exists_bool, hui]
    obtain ⟨b, o, s, rfl, h1, h2, h3⟩ := hu.at hj
    have hwi : IntKind.i64.wrap ((i : Int) + 1) = (i : Int) + 1 := wrap_id (by omega) (by omega)
    have hi2 : i < us.length := by omega
    simp only [h0, decide_false, cond_false]
    simp [-Bool.exists_bool, h1, h3, hwi, hi2]
    exact ⟨fun hh => h2 hh, hq⟩
  | succ j ih =>
    intro k hk
    have := ih (k + 1) (by omega)
    refine W_of mixed (cfg := d12xcfg) (fuel := 400) ?_
    rw [d12x4k1]
    have h0 : ((k : Int) ≤ i) := by omega
    have hkl : k < hs.length := by omega
    have hb := runsAt_bound hs mult k
    have hwk : IntKind.i64.wrap ((k : Int) + 1) = (k : Int) + 1 := wrap_id (by omega) (by omega)
    have hws : IntKind.i64.wrap ((runsAt hs mult k).2 + 1) = (runsAt hs mult k).2 + 1 := wrap_id (by omega) (by omega)
    have hj : (hs.map Value.bool)[k]? = some (.bool (hs.getD k false)) := by simp [-Bool.exists_bool, List.getD, List.getElem?_eq_getElem hkl]
    obtain ⟨b, o, s, rfl, h1, h2, h3⟩ := hv.at hj
    have e2 : ¬ (0 ≥ mult) := by omega
    simp only [decide_eq_true h0, cond_true]
    simp only [runsAt] at this
    have hcast : ((k + 1 : Nat) : Int) = (k : Int) + 1 := by omega
    rw [hcast] at this
    cases hbk : hs.getD k false with
    | true =>
      rw [hbk] at h3 this
      rcases Nat.eq_zero_or_pos k with hz | hp
      · have hp : ¬ 0 < k := by omega
        simp [-Bool.exists_bool, h1, h3, hkl, hwk, e2, hp]
        refine ⟨fun hh => h2 hh, ?_⟩
        simpa [-Bool.exists_bool, e2, hp] using this
      · have hjp : (hs.map Value.bool)[k - 1]? = some (.bool (hs.getD (k - 1) false)) := by simp [-Bool.exists_bool, List.getD, List.getElem?_eq_getElem (show k - 1 < hs.length by omega)]
        obtain ⟨b', o', s', e, g1, g2, g3⟩ := hv.at hjp
        cases e
        have hwp : IntKind.i64.wrap ((k : Int) - 1) = ((k - 1 : Nat) : Int) := by rw [wrap_id (by omega) (by omega)]; omega
        have hp1 : k - 1 < hs.length := by omega
        cases hbp : hs.getD (k - 1) false with
        | true =>
          rw [hbp] at g3 this
          simp [-Bool.exists_bool, h1, h3, hkl, hwk, hws, e2, hp, hwp, hp1, g3]
          refine ⟨fun hh => h2 hh, ?_⟩
          simpa [-Bool.exists_bool, e2, hp] using this
        | false =>
          rw [hbp] at g3 this
          simp [-Bool.exists_bool, h1, h3, hkl, hwk, hws, e2, hp, hwp, hp1, g3]
          refine ⟨fun hh => h2 hh, ?_⟩
          simpa [-Bool.exists_bool, e2, hp] using this
    | false =>
      rw [hbk] at h3 this
      simp [-Bool.exists_bool, h1, h3, hkl, hwk, hws, e2]
      refine ⟨fun hh => h2 hh, ?_⟩
      by_cases hx : mult ≤ (runsAt hs mult k).2 + 1
      · by_cases hp : 0 < k
        · simp [-Bool.exists_bool, hx, hp]
          refine ⟨fun hh => h2 hh, ?_⟩
          simpa [-Bool.exists_bool, hx] using this
        · simp [-Bool.exists_bool, hx, hp]
          simpa [-Bool.exists_bool, hx] using this
      · by_cases hp : 0 < k
        · simp [-Bool.exists_bool, hx, hp]
          refine ⟨fun hh => h2 hh, ?_⟩
          simpa [-Bool.exists_bool, hx] using this
        · simp [-Bool.exists_bool, hx, hp]
          simpa [-Bool.exists_bool, hx] using this

theorem runs_outer {hs us : List Bool} {ha ua : Option Addr} {hc uc : Nat} {mult : Int} {ok : Bool} {m : Mem} {n : Nat} {Q : Value → Mem → Nat → Prop} (hm : 1 ≤ mult ∧ mult ≤ 1000) (hl : hs.length ≤ 200)
    (hv : View m 4 ha hc (hs.map .bool)) (hu : View m 4 ua uc (us.map .bool)) (hul : us.length = hs.length) (hui : ∀ i, i < hs.length → us[i]? = some (runsAt hs mult (i + 1)).1)
    (hq : Q (.bool ok) m n) :
    ∀ j i, i + j = hs.length → W Try.prog (fr4 mult ha hs.length hc ok ua us.length uc i) m n Q := by
  intro j
  induction j with
  | zero =>
    intro i hi
    refine W_of mixed (cfg := d12xcfg) (fuel := 400) ?_
    rw [d12x4k0]
    have h0 : ¬ ((i : Int) < hs.length) := by omega
    simpa only [decide_eq_false h0, cond_false] using hq
  | succ j ih =>
    intro i hi
    refine W_of mixed (cfg := d12xcfg) (fuel := 400) ?_
    rw [d12x4k0]
    have h0 : ((i : Int) < hs.length) := by omega
    simp only [decide_eq_true h0, cond_true]
    have := ih (i + 1) (by omega)
    have hcast : ((i + 1 : Nat) : Int) = (i : Int) + 1 := by omega
    rw [hcast] at this
    exact runs_inner hm hl (by omega) hv hu hul (hui i (by omega)) this (i + 1) 0 (by omega)

theorem ups_get (d : D) (t : Int) (l : List Bool) {i : Nat} (h : i < l.length) : (d.ups t l)[i]? = some ((d.run t (l.take (i + 1))).mode == 1) := by
  induction l generalizing d t i with
  | nil => simp [-Bool.exists_bool] at h
  | cons b l ih =>
    cases i with
    | zero => simp [-Bool.exists_bool, D.ups, D.run]
    | succ i =>
      simp only [D.ups, List.getElem?_cons_succ, List.take_succ_cons, D.run]
      exact ih _ _ (by simpa [-Bool.exists_bool] using h)

theorem runs_c {m : Mem} {n : Nat} {x y : Int} {hs : List Bool} {ha : Option Addr} {hc : Nat} {Q : Value → Mem → Nat → Prop} (hv : View m 4 ha hc (hs.map .bool)) (hhb : ∀ b o s, ha = some ⟨b, o, s⟩ → b < n) (hq : ∀ m' n', Q (.bool true) m' n') :
    Wc Try.prog 4 [.int .i64 x, .slice ha hs.length hc, .int .i64 y] m n Q := by
  refine Wc.fresh (by kernel_rfl) fun hfresh => ?_
  refine Wc_of mixed (cfg := d12xcfg) (fuel := 400) ?_
  rw [d12x4]
  refine known_c ⟨_, rfl, Later.mk ?_⟩
  by_cases hl : ((hs.length : Nat) : Int) > 200
  · simp only [decide_eq_true hl, cond_true]; exact hq _ _
  simp only [decide_eq_false hl, cond_false]
  have hx := pickM_range (x := x) (n := 8) (by omega) (by omega)
  have hy := pickM_range (x := y) (n := 1000) (by omega) (by omega)
  refine pick_c (by omega) ⟨_, rfl, Later.mk ?_⟩
  refine pick_c (by omega) ⟨_, rfl, Later.mk ?_⟩
  have hwm : IntKind.i64.wrap (1 + pickM x 8) = 1 + pickM x 8 := wrap_id (by omega) (by omega)
  rw [hwm]
  have hm : 1 ≤ 1 + pickM x 8 ∧ 1 + pickM x 8 ≤ 1000 := by omega
  generalize 1 + pickM x 8 = mult at hm ⊢
  generalize pickM y 1000 = t at hy ⊢
  refine new_c hm fun m1 n1 w s hw hnw hns hfr => ⟨_, _, rfl, Later.mk ?_⟩
  simp only [bne_self_eq_false, cond_false, Option.isNone_some]
  have hv1 : View m1 4 ha hc (hs.map .bool) := hv.same fun b o hb _ _ => hfr.2 b (lt_of_get hfresh hb) (fun h => h)
  refine ticks_c hw ⟨hm, .inl rfl⟩ (by intro x h; cases h) hy.1 hv1 (by omega) (by omega) fun m2 n2 a c hw2 hown hab hfr2 => ⟨_, _, _, _, rfl, Later.mk ?_⟩
  simp only [Bool.not_true, cond_false]
  have hv2 : View m2 4 ha hc (hs.map .bool) := hv1.same fun b o hb _ ⟨o', s', e⟩ => hfr2.2 b (by have := hhb _ _ _ e; have := hfr.1; omega) (by have := hhb _ _ _ e; omega)
  have hul := D.ups_length (D.init mult) t hs
  have := runs_outer (ok := true) (Q := Q) (n := n2) hm (by omega) hv2 hown.view hul (fun i hi => by
    rw [ups_get _ _ _ hi]
    have hk := knows_run (hs := hs) (t := t) (mult := mult) (by omega) hm (by omega) (i + 1) (by omega)
    rw [hk.hmode]
    cases (runsAt hs mult (i + 1)).1 <;> rfl) (hq _ _) hs.length 0 (by omega)
  rw [hul] at this
  exact this
end Go.Proofs.Ytpiiddoccloghaa
