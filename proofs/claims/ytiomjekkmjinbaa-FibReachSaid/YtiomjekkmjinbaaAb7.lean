/- The operations that at most read: sound, whole. -/
import Derived.Test.YtiomjekkmjinbaaAb6
namespace Go.Ab
open Go

section
variable {P : Program} {β : Beta} {n : Dm} {m : Mem} {w : World} {sl : Slots} {ρ : Operand → Value}

theorem boundA_sound {x : Value} {y r : Nat} {code : BoundsCode} (h : boundA x y = some r) : (Instr.sliceBound (ren β x) y code).run P w = .ok r w ∧ r ≤ y := by
  unfold boundA at h
  split at h
  · rename_i k i
    split at h
    · rename_i hi
      simp only [Option.some.injEq] at h; subst h
      refine ⟨?_, by omega⟩
      simp [ren, Instr.sliceBound, asIntOf, hi]
    · cases h
  · cases h
theorem boundA_more {x : Value} {y z r : Nat} (h : boundA x y = some r) (hz : y ≤ z) : boundA x z = some r := by
  unfold boundA at h ⊢
  split at h
  · split at h
    · rename_i hi; simp only [Option.some.injEq] at h; subst h
      rw [if_pos ⟨hi.1, by omega⟩]
    · cases h
  · cases h

theorem boundsA_sound {len cap : Nat} {lo hi mx : Option Value} {l h m' : Nat} (hh : boundsA len cap lo hi mx = some (l, h, m')) :
    (Instr.sliceBounds true len cap (lo.map (ren β)) (hi.map (ren β)) (mx.map (ren β))).run P w = .ok (l, h, m') w := by
  unfold boundsA at hh
  split at hh
  · cases hh
  · rename_i mm hm
    split at hh
    · cases hh
    · rename_i h' hhi
      split at hh
      · cases hh
      · rename_i l' hl
        simp only [Option.some.injEq, Prod.mk.injEq] at hh
        obtain ⟨rfl, rfl, rfl⟩ := hh
        unfold Instr.sliceBounds
        cases mx with
        | none =>
          simp only [Option.some.injEq] at hm; subst hm
          cases hi with
          | none =>
            simp only [Option.some.injEq] at hhi; subst hhi
            cases lo with
            | none => simp only [Option.some.injEq] at hl; subst hl; simp
            | some v => simp [(boundA_sound hl).1]
          | some u =>
            simp only at hhi
            cases lo with
            | none => simp only [Option.some.injEq] at hl; subst hl; simp [(boundA_sound hhi).1]
            | some v => simp [(boundA_sound hhi).1, (boundA_sound hl).1]
        | some z =>
          simp only at hm
          cases hi with
          | none => cases hhi
          | some u =>
            simp only at hhi
            cases lo with
            | none => simp only [Option.some.injEq] at hl; subst hl; simp [(boundA_sound hm).1, (boundA_sound hhi).1]
            | some v => simp [(boundA_sound hm).1, (boundA_sound hhi).1, (boundA_sound hl).1]

/-- The most that bounds may reach: with a larger capacity the same bounds hold. -/
theorem boundsA_cap {len cap cap' : Nat} {lo hi : Option Value} {l h m' : Nat} (hh : boundsA len cap lo hi none = some (l, h, m')) (hc : cap ≤ cap') :
    boundsA len cap' lo hi none = some (l, h, cap') ∧ m' = cap := by
  unfold boundsA at hh ⊢
  simp only at hh ⊢
  split at hh
  · cases hh
  · rename_i h' hhi
    split at hh
    · cases hh
    · rename_i l' hl
      simp only [Option.some.injEq, Prod.mk.injEq] at hh
      obtain ⟨rfl, rfl, rfl⟩ := hh
      refine ⟨?_, rfl⟩
      cases hi with
      | none => simp only [Option.some.injEq] at hhi; subst hhi; simp [hl]
      | some u => simp only at hhi; simp [boundA_more hhi hc, hl]
theorem boundsA_cap3 {len cap cap' : Nat} {lo hi : Option Value} {x : Value} {l h m' : Nat} (hh : boundsA len cap lo hi (some x) = some (l, h, m')) (hc : cap ≤ cap') :
    boundsA len cap' lo hi (some x) = some (l, h, m') := by
  unfold boundsA at hh ⊢
  simp only at hh ⊢
  split at hh
  · cases hh
  · rename_i mm hm
    rw [boundA_more hm hc]
    exact hh
theorem boundsA_le {len cap : Nat} {lo hi mx : Option Value} {l h m' : Nat} (hh : boundsA len cap lo hi mx = some (l, h, m')) : m' ≤ cap := by
  unfold boundsA at hh
  split at hh
  · cases hh
  · rename_i mm hm
    split at hh
    · cases hh
    · split at hh
      · cases hh
      · simp only [Option.some.injEq, Prod.mk.injEq] at hh
        obtain ⟨_, _, rfl⟩ := hh
        cases mx with
        | none => simp only [Option.some.injEq] at hm; omega
        | some v =>
          simp only at hm
          unfold boundA at hm
          split at hm
          · split at hm
            · simp only [Option.some.injEq] at hm; omega
            · cases hm
          · cases hm

theorem add_add (a : Addr) (x y : Nat) : (a.add x).add y = a.add (x + y) := by
  unfold Addr.add
  by_cases hx : x = 0
  · by_cases hy : y = 0 <;> simp [hx, hy]
  · by_cases hy : y = 0
    · simp [hx, hy]
    · simp [hx, hy, Nat.add_assoc]
/-- The offset of a slice without cells. -/
def offX (o : Nat) (s : Option Nat) (cap : Nat) : Nat :=
  match s with
  | none => o
  | some t => if cap = 0 then o else t
theorem resliceA_sound {t elem : TypeId} {sz i o : Nat} {s : Option Nat} {len cap : Nat} {lo hi mx : Option Value} {v : Value} (hu : P.underlying t = some (.slice elem)) (hs : szOf P elem = some sz)
    (hi' : n.has i = true) (h : resliceA sz i o s len cap lo hi mx = some v) :
    (Instr.slice t (ren β (.slice (some ⟨i, o, s⟩) len cap)) (lo.map (ren β)) (hi.map (ren β)) (mx.map (ren β))).run P w = .ok (ren β v) w ∧ blw n v = true := by
  unfold resliceA at h
  split at h
  · cases h
  · rename_i l hh m' hb
    have hmc := boundsA_le hb
    simp only [ren]
    by_cases hn : (β i).nil = true
    · -- the nil slice
      cases hodd : (β i).odd with
      | none =>
        have e : ∀ o s a b, renSlice (β i) o s a b = .slice none a b := fun o s a b => by unfold renSlice; simp [hn, hodd]
        have hrun : ∀ z : Value, (∃ o' s', z = .slice (some ⟨i, o', s'⟩) (hh - l) (m' - l)) →
            (Instr.slice t (.slice none len cap) (lo.map (ren β)) (hi.map (ren β)) (mx.map (ren β))).run P w = .ok (ren β z) w ∧ blw n z = true := by
          rintro z ⟨o', s', rfl⟩
          refine ⟨?_, by simpa [blw] using hi'⟩
          simp [Instr.slice, run_und hu, boundsA_sound (P := P) (β := β) (w := w) hb, run_sz hs, ren, e]
        rw [e]
        split at h
        · simp only [Option.some.injEq] at h; subst h; exact hrun _ ⟨_, _, rfl⟩
        · split at h
          · split at h
            · simp only [Option.some.injEq] at h; subst h; exact hrun _ ⟨_, _, rfl⟩
            · cases h
          · have hmx : m' = cap := (boundsA_cap hb (Nat.le_refl _)).2
            subst hmx
            split at h
            · split at h <;> simp only [Option.some.injEq] at h <;> subst h <;> exact hrun _ ⟨_, _, rfl⟩
            · cases h
      | some a =>
        have e : ∀ o s x y, renSlice (β i) o s x y = .slice (some (a.add (offX o s y))) x y := fun o s x y => by unfold renSlice offX; simp [hn, hodd]; cases s <;> rfl
        have hrun : ∀ o' s', (a.add (offX o' s' (m' - l)) = if m' = l then a.add (offX o s cap) else (a.add (offX o s cap)).add (l * sz)) →
            (Instr.slice t (.slice (some (a.add (offX o s cap))) len cap) (lo.map (ren β)) (hi.map (ren β)) (mx.map (ren β))).run P w = .ok (ren β (.slice (some ⟨i, o', s'⟩) (hh - l) (m' - l))) w ∧
              blw n (.slice (some ⟨i, o', s'⟩) (hh - l) (m' - l)) = true := by
          intro o' s' ho
          refine ⟨?_, by simpa [blw] using hi'⟩
          simp only [Instr.slice, Sem.run_bind, run_und hu, Result.andThen_ok, boundsA_sound (P := P) (β := β) (w := w) hb, run_sz hs, Sem.run_pure, ren, e, ho]
          split <;> simp_all
        rw [e]
        split at h
        · simp only [Option.some.injEq] at h; subst h
          refine hrun _ _ ?_
          simp only [offX]
          split
          · rfl
          · rw [add_add]
        · rename_i tt
          split at h
          · split at h
            · rename_i hc
              simp only [Option.some.injEq] at h; subst h
              refine hrun _ _ ?_
              simp only [offX, if_neg (show ¬ cap = 0 by omega)]
              split
              · rfl
              · rw [add_add]
            · cases h
          · have hmx : m' = cap := (boundsA_cap hb (Nat.le_refl _)).2
            subst hmx
            split at h
            · split at h
              · rename_i hle hc
                simp only [Option.some.injEq] at h; subst h
                refine hrun _ _ ?_
                simp only [offX, if_neg (show ¬ m' = 0 by omega)]
                by_cases hml : m' = l
                · simp [hml]
                · rw [if_neg hml, if_neg hml, if_neg (by omega), add_add]
              · rename_i hle hc
                simp only [Option.some.injEq] at h; subst h
                refine hrun _ _ ?_
                have h0 : m' = 0 := by omega
                have h1 : l = 0 := by omega
                subst h0; subst h1
                simp [offX]
            · cases h
    · have hn : (β i).nil = false := by simpa using hn
      split at h
      · -- exact
        simp only [Option.some.injEq] at h; subst h
        refine ⟨?_, by simpa [blw] using hi'⟩
        simp only [renSlice, hn, Bool.false_eq_true, if_false]
        simp only [Instr.slice, Sem.run_bind, run_und hu, Result.andThen_ok, boundsA_sound (P := P) (β := β) (w := w) hb, run_sz hs, Sem.run_pure, ren, renSlice, hn, Bool.false_eq_true, if_false]
        split
        · rename_i e; simp [e]
        · rename_i e
          have e : ¬ m' = l := e
          simp [Addr.add]
          split
          · rename_i e2; simp [e2]
          · simp; omega
      · rename_i t'
        split at h
        · -- three bounds
          rename_i x
          split at h
          · rename_i hc
            simp only [Option.some.injEq] at h; subst h
            refine ⟨?_, by simpa [blw] using hi'⟩
            have hb' := boundsA_cap3 hb (show cap ≤ cap + (β i).ex by omega)
            simp only [renSlice, hn, Bool.false_eq_true, if_false, if_neg (show ¬ cap + (β i).ex = 0 by omega)]
            simp only [Instr.slice, Sem.run_bind, run_und hu, Result.andThen_ok, boundsA_sound (P := P) (β := β) (w := w) hb', run_sz hs, Sem.run_pure, ren, renSlice, hn, Bool.false_eq_true, if_false]
            split
            · rename_i e; simp [e]
            · rename_i e
              have e : ¬ m' = l := e
              simp [Addr.add]
              split
              · rename_i e2; simp [e2]
              · simp; omega
          · cases h
        · obtain ⟨hb', hmx⟩ := boundsA_cap hb (show cap ≤ cap + (β i).ex by omega)
          subst hmx
          split at h
          · rename_i hl
            split at h
            · rename_i hc
              simp only [Option.some.injEq] at h; subst h
              refine ⟨?_, by simpa [blw] using hi'⟩
              simp only [renSlice, hn, Bool.false_eq_true, if_false, if_neg (show ¬ m' + (β i).ex = 0 by omega)]
              simp only [Instr.slice, Sem.run_bind, run_und hu, Result.andThen_ok, boundsA_sound (P := P) (β := β) (w := w) hb', run_sz hs, Sem.run_pure, ren, renSlice, hn, Bool.false_eq_true, if_false]
              have ec : m' + (β i).ex - l = m' - l + (β i).ex := by omega
              by_cases e : m' + (β i).ex = l
              · rw [if_pos e, if_pos (show m' - l + (β i).ex = 0 by omega), if_pos (show m' = l by omega), ec]
              · rw [if_neg e, if_neg (show ¬ m' - l + (β i).ex = 0 by omega), ec]
                simp only [Option.map_some, addr_add]
                congr 4; omega
            · rename_i hc
              have h0 : m' = 0 := by omega
              have hl0 : l = 0 := by omega
              subst h0; subst hl0
              simp only [Option.some.injEq] at h; subst h
              refine ⟨?_, by simpa [blw] using hi'⟩
              simp only [renSlice, hn, Bool.false_eq_true, if_false]
              simp only [Instr.slice, Sem.run_bind, run_und hu, Result.andThen_ok, boundsA_sound (P := P) (β := β) (w := w) hb', run_sz hs, Sem.run_pure, ren, renSlice, hn, Bool.false_eq_true, if_false]
              simp [addr_add]
          · cases h
end
end Go.Ab
