/- AA12: what parts of the program compute; helper of the claim. -/
import Derived.Test.YtpiiddoccloghaaZA12
namespace Go.Proofs.Ytpiiddoccloghaa
open Go Go.Ab

@[reducible] noncomputable def fr6 (mult : Int) (ga : Option Addr) (gl gc : Nat) (w : Nat) (now i : Int) : AFrame :=
  { fn := 6, nt := 93, slots := [(0, .int .i64 mult), (1, .slice ga gl gc), (5, .bool true), (6, pp w), (9, .bool true), (10, .int .i64 now), (11, .int .i64 i)], todo := pt Try.prog 6 [1, 1, 1, 1, 1, 1, 1, 1, 0, 1, 0, 0] }
theorem stays_loop {w s : Nat} {gs : List Int} {ga : Option Addr} {gc : Nat} {mult : Int} {Q : Value → Mem → Nat → Prop} (hm : 1 ≤ mult ∧ mult ≤ 20) (hl : gs.length ≤ 60) (hq : ∀ m' n', Q (.bool true) m' n') :
    ∀ (l pre : List Int) (now : Int) (d : D) (m : Mem) (n : Nat), gs = pre ++ l → 1 ≤ now ∧ now ≤ 2 + 21 * pre.length → View m 3 ga gc (gs.map (.int .i64)) → (∀ b o s', ga = some ⟨b, o, s'⟩ → gs ≠ [] → b ≠ s) → Wat m w s d → d.ok → UpSt d mult now 0 →
      W Try.prog (fr6 mult ga gs.length gc w now pre.length) m n Q := by
  intro l
  induction l with
  | nil =>
    intro pre now d m n hi hn hv hsep hw hok hst
    rw [List.append_nil] at hi
    subst hi
    refine W_of mixed (cfg := d12xcfg) (fuel := 400) ?_
    rw [d12x6k0]
    have h0 : ¬ ((gs.length : Int) < gs.length) := by omega
    simp only [decide_eq_false h0, cond_false, cond_true]
    refine up_c hw ⟨_, rfl, Later.mk ?_⟩
    rw [hst.hmode]
    simp only [beq_self_eq_true, cond_true]
    refine changes_c hw ⟨_, rfl, Later.mk ?_⟩
    rw [hst.hch]
    simp only [beq_self_eq_true, cond_true]
    refine since_c hw ⟨_, rfl, Later.mk ?_⟩
    rw [hst.hsince]
    exact hq _ _
  | cons g l ih =>
    intro pre now d m n hi hn hv hsep hw hok hst
    refine W.fresh fun hfresh => W_of mixed (cfg := d12xcfg) (fuel := 400) ?_
    rw [d12x6k0]
    have h1 : pre.length < gs.length := by rw [hi]; simp [-Bool.exists_bool]
    have h0 : ((pre.length : Int) < gs.length) := by omega
    have hne : gs ≠ [] := by intro e; rw [e] at h1; simp [-Bool.exists_bool] at h1
    have hja : (gs.map (Value.int .i64))[pre.length]? = some (.int .i64 g) := by rw [hi]; simp [-Bool.exists_bool]
    obtain ⟨p, o, sp, rfl, a1, a2, a3⟩ := hv.at hja
    simp only [decide_eq_true h0, cond_true, elimA_some]
    refine ⟨⟨by omega, h0, a1, a2⟩, g, by simpa [-Bool.exists_bool] using a3, ?_⟩
    have hx := pickM_range (x := g) (n := mult) (by omega) (by omega)
    refine pick_c (by omega) ⟨_, rfl, Later.mk ?_⟩
    generalize pickM g mult = x at hx ⊢
    refine ⟨⟨hx.1, Int.le_refl _, by omega⟩, ?_⟩
    obtain ⟨k, rfl⟩ := Int.eq_ofNat_of_zero_le hx.1
    have hfl : (List.replicate k [Value.bool false]).flatten = (List.replicate k false).map .bool := by
      induction k with
      | zero => rfl
      | succ k ihk => rw [List.replicate_succ, List.replicate_succ, List.flatten_cons, ihk (by omega)]; rfl
    simp only [Int.toNat_natCast, hfl]
    have hmade : Made ((m.set n (.cells none 4 1 ((List.replicate k false).map .bool))).set (n + 1) (.cells none 4 1 [.bool true])) 4 1 (some ⟨n, 0, none⟩) k k ((List.replicate k false).map .bool) := ⟨n, rfl, rfl, by simp, by simp [-Bool.exists_bool, Tr.get_set]⟩
    obtain ⟨happ, hown⟩ := append_made (n := n + 1 + 1) (k := 1) (kc := 1) (x := some ⟨n + 1, 0, none⟩) (xs := [.bool true]) bools hmade (one_cell (T := 4) (sz := 1) (by simp [-Bool.exists_bool, Tr.get_set])) (by omega) (by simp [-Bool.exists_bool, cellOk]) (by simp [-Bool.exists_bool]) (by omega)
    refine ⟨_, _, _, _, _, happ, ?_⟩
    generalize hm3 : (((m.set n (.cells none 4 1 ((List.replicate k false).map .bool))).set (n + 1) (.cells none 4 1 [.bool true])).set (n + 1 + 1) (.cells none 4 1 ((List.replicate k false).map .bool ++ [.bool true]))) = m3 at hown ⊢
    have hkeep : ∀ i, i < n → m3.get i = m.get i := fun i hi => by
      have e1 : ¬ n = i := by omega
      have e2 : ¬ n + 1 = i := by omega
      have e3 : ¬ n + 1 + 1 = i := by omega
      rw [← hm3]; simp [-Bool.exists_bool, Tr.get_set, e1, e2, e3]
    have hw3 : Wat m3 w s d := hw.same fun i _ _ _ hi _ => hkeep i (lt_of_get hfresh hi)
    have hlist : (List.replicate k false).map Value.bool ++ [.bool true] = (List.replicate k false ++ [true]).map .bool := by simp [-Bool.exists_bool]
    have hlen : k + 1 = (List.replicate k false ++ [true]).length := by simp [-Bool.exists_bool]
    rw [hlist] at hown
    have hv3 := hown.view
    rw [hlen] at hv3 ⊢
    obtain ⟨r1, r2⟩ := up_gap k d mult now 0 ⟨hn.1, by omega⟩ ⟨hm.1, by omega⟩ ⟨by omega, by omega⟩ hst
    refine ticks_c hw3 hok (by intro x hx; rw [hst.hlast] at hx; cases hx; omega) (by omega) hv3 (by simp; omega) (by simp; omega) fun m4 n4 a4 c4 hw4 hown4 _ hfr4 => ⟨_, _, _, _, rfl, Later.mk ?_⟩
    rw [r2] at hown4
    simp only [cond_true]
    have hlen4 : (List.replicate k false ++ [true]).length = (List.replicate (k + 1) true).length := by simp [-Bool.exists_bool]
    rw [hlen4]
    refine has_c hown4.view (by simp; omega) ⟨_, rfl, Later.mk ?_⟩
    have hcon : (List.replicate (k + 1) true).contains false = false := by simp [-Bool.exists_bool]
    have wn : IntKind.i64.wrap (IntKind.i64.wrap (now + (k : Int)) + 1) = now + k + 1 := by rw [wrap_id (x := now + (k : Int)) (by omega) (by omega), wrap_id (by omega) (by omega)]
    have wi : IntKind.i64.wrap ((pre.length : Int) + 1) = ((pre ++ [g]).length : Int) := by rw [wrap_id (by omega) (by omega)]; simp [-Bool.exists_bool]
    rw [hcon, wn, wi]
    have hps : p ≠ s := hsep _ _ _ rfl hne
    refine ih (pre ++ [g]) (now + k + 1) _ m4 n4 (by simp [-Bool.exists_bool, hi]) ⟨by omega, by simp; omega⟩ ?_ hsep hw4 (run_ok _ _ _ hok) r1
    exact hv.same fun b ob hb _ ⟨o', s', e⟩ => by
      cases e
      have := lt_of_get hfresh hb
      rw [hfr4.2 p (by omega) hps, hkeep p this]
end Go.Proofs.Ytpiiddoccloghaa
