/- AB12: what parts of the program compute; helper of the claim. -/
import Derived.Test.YtpiiddoccloghaaAA12
import Derived.Test.YtpiiddoccloghaaAb38
namespace Go.Proofs.Ytpiiddoccloghaa
open Go Go.Ab

theorem stays_c {m : Mem} {n : Nat} {x : Int} {gs : List Int} {id cap : Nat} {nl : Bool} {Q : Value → Mem → Nat → Prop} (hg : m.get id = some (.cells (some nl) 3 1 (gs.map (.int .i64)))) (hq : ∀ m' n', Q (.bool true) m' n') :
    Wc Try.prog 6 [.int .i64 x, .slice (some ⟨id, 0, none⟩) gs.length cap] m n Q := by
  refine Wc.fresh (by kernel_rfl) fun hfresh => ?_
  refine Wc_of mixed (cfg := d12xcfg) (fuel := 400) ?_
  rw [d12x6]
  refine known_c ⟨_, rfl, Later.mk ?_⟩
  by_cases hl : ((gs.length : Nat) : Int) > 60
  · simp only [decide_eq_true hl, cond_true]; exact hq _ _
  simp only [decide_eq_false hl, cond_false]
  have hx := pickM_range (x := x) (n := 20) (by omega) (by omega)
  refine pick_c (by omega) ⟨_, rfl, Later.mk ?_⟩
  have hwm : IntKind.i64.wrap (1 + pickM x 20) = 1 + pickM x 20 := wrap_id (by omega) (by omega)
  rw [hwm]
  have hm : 1 ≤ 1 + pickM x 20 ∧ 1 + pickM x 20 ≤ 20 := by omega
  generalize 1 + pickM x 20 = mult at hm ⊢
  refine Wc.after (new_c ⟨hm.1, by omega⟩ fun m1 n1 w s hw hnw hns hfr hf1 => ⟨_, _, rfl, Later.mk ?_⟩)
  simp only [bne_self_eq_false, cond_false, Option.isNone_some]
  have hid : id < n := lt_of_get hfresh hg
  have hn1 := hfr.1
  have hok : (D.init mult).ok := ⟨⟨hm.1, by simp [-Bool.exists_bool, D.init]; omega⟩, .inl rfl⟩
  have hnew : Made (m1.set n1 (.cells none 4 1 [.bool true, .bool true])) 4 1 (some ⟨n1, 0, none⟩) 2 2 ([true, true].map .bool) := ⟨n1, rfl, rfl, rfl, by simp [-Bool.exists_bool, Tr.get_set]⟩
  have hset : ∀ i, i < n1 → (m1.set n1 (.cells none 4 1 [.bool true, .bool true])).get i = m1.get i := fun i hi => by
    have : ¬ n1 = i := by omega
    simp [-Bool.exists_bool, Tr.get_set, this]
  have hw' : Wat (m1.set n1 (.cells none 4 1 [.bool true, .bool true])) w s (D.init mult) := hw.same fun i _ _ _ hi _ => hset i (lt_of_get hf1 hi)
  refine ticks_c (bs := [true, true]) hw' hok (by intro x h; cases h) (by omega) hnew.view (by simp [-Bool.exists_bool]) (by simp [-Bool.exists_bool]) fun m2 n2 a c hw2 _ _ hfr2 => ⟨_, _, _, _, rfl, Later.mk ?_⟩
  have hg2 : m2.get id = some (.cells (some nl) 3 1 (gs.map (.int .i64))) := by
    rw [hfr2.2 id (by omega) (by omega), hset id (by omega), hfr.2 id hid (fun h => h), hg]
  exact stays_loop hm (by omega) hq gs [] 2 _ m2 n2 rfl ⟨by omega, by simp⟩ (view_in hg2) (fun b o s' e _ => by cases e; omega) hw2 (run_ok _ _ _ hok) up_first.1
end Go.Proofs.Ytpiiddoccloghaa
