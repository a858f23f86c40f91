/- ZA12: what parts of the program compute; helper of the claim. -/
import Derived.Test.YtpiiddoccloghaaZ12
namespace Go.Proofs.Ytpiiddoccloghaa
open Go Go.Ab

/-- A link that is up, at the time 'now': something was heard g ticks before now's last. -/
structure UpSt (d : D) (mult now : Int) (g : Int) : Prop where
  hmult : d.mult = mult
  hmode : d.mode = 1
  hat : d.heardAt = now - 1 - g
  hlast : d.last = some (now - 1)
  hch : d.changes = 1
  hsince : d.since = 1
theorem up_next {d : D} {mult now g : Int} {b : Bool} (hn : 1 ≤ now ∧ now ≤ 1000000) (hm : 1 ≤ mult ∧ mult ≤ 1000) (hg : 0 ≤ g ∧ g + 1 < mult ∨ b = true ∧ 0 ≤ g ∧ g ≤ mult) (h : UpSt d mult now g) : UpSt (d.next now b) mult (now + 1) (if b then 0 else g + 1) := by
  obtain ⟨h1, h2, h3, h4, h5, h6⟩ := h
  have hw : IntKind.i64.wrap (d.heardAt + d.mult) = now - 1 - g + mult := by rw [h3, h1]; exact wrap_id (by omega) (by omega)
  have e0 : ¬ ((1 : Int) = 0) := by decide
  have hc : d.chg now b = false := by
    simp only [D.chg, h2, if_neg e0, D.fall, hw]
    cases b with
    | true => rfl
    | false =>
      have : ¬ now ≥ now - 1 - g + mult := by
        rcases hg with h | h
        · omega
        · exact absurd h.1 (by decide)
      rw [decide_eq_false this]; rfl
  refine ⟨h1, ?_, ?_, ?_, ?_, ?_⟩
  · show (if d.chg now b then IntKind.i64.wrap (1 - d.mode) else d.mode) = 1
    rw [hc]; exact h2
  · show (if b then now else d.heardAt) = now + 1 - 1 - (if b then 0 else g + 1)
    cases b with
    | true => simp [-Bool.exists_bool]
    | false => simp [-Bool.exists_bool, h3]; omega
  · show some now = some (now + 1 - 1)
    congr 1; omega
  · show (if d.chg now b then IntKind.i64.wrap (d.changes + 1) else d.changes) = 1
    rw [hc]; exact h5
  · show (if d.chg now b then now else d.since) = 1
    rw [hc]; exact h6
theorem up_gap : ∀ (k : Nat) (d : D) (mult now g : Int), 1 ≤ now ∧ now + k ≤ 100000 → 1 ≤ mult ∧ mult ≤ 1000 → 0 ≤ g ∧ g + k < mult → UpSt d mult now g →
    UpSt (d.run now (List.replicate k false ++ [true])) mult (now + k + 1) 0 ∧ d.ups now (List.replicate k false ++ [true]) = List.replicate (k + 1) true
  | 0, d, mult, now, g, hn, hm, hg, h => by
    have := up_next (b := true) ⟨hn.1, by omega⟩ hm (.inr ⟨rfl, hg.1, by omega⟩) h
    refine ⟨?_, ?_⟩
    · have e : now + (0 : Nat) + 1 = now + 1 := by omega
      rw [e]; exact this
    · show [((d.next now true).mode == 1)] = [true]
      rw [this.hmode]; rfl
  | k + 1, d, mult, now, g, hn, hm, hg, h => by
    have hs := up_next (b := false) ⟨hn.1, by omega⟩ hm (.inl ⟨hg.1, by omega⟩) h
    obtain ⟨r1, r2⟩ := up_gap k (d.next now false) mult (now + 1) (g + 1) ⟨by omega, by omega⟩ hm ⟨by omega, by omega⟩ hs
    refine ⟨?_, ?_⟩
    · have e : now + ((k + 1 : Nat) : Int) + 1 = now + 1 + k + 1 := by omega
      rw [e, List.replicate_succ]; exact r1
    · rw [List.replicate_succ]
      show ((d.next now false).mode == 1) :: (d.next now false).ups (now + 1) (List.replicate k false ++ [true]) = _
      rw [r2, hs.hmode]; rfl
/-- The first two ticks. -/
theorem up_first {mult : Int} : UpSt ((D.init mult).run 0 [true, true]) mult 2 0 ∧ (D.init mult).ups 0 [true, true] = [false, true] := by
  have h : (D.init mult).run 0 [true, true] = ⟨mult, 1, some 1, true, 1, 1, 1⟩ := by
    simp only [D.run, D.init, D.next, D.chg, D.rise, D.fall]
    rfl
  rw [h]
  exact ⟨⟨rfl, rfl, rfl, rfl, rfl, rfl⟩, rfl⟩
end Go.Proofs.Ytpiiddoccloghaa
