/- The transformer's operations are sound, whole. -/
import Derived.Test.YtiomjekkmjinbaaAb31
namespace Go.Ab
open Go

section
variable {P : Program} {m : Mem} {sl : Slots}

theorem qX_some {o : Oper} {K : Value → Prop} (h : qX P m sl o K) : ∃ v, evQX P m sl o = some v ∧ K v := by
  unfold qX at h
  unfold evQX
  split at h
  · rename_i c a b ho
    rw [ho]
    simp only [xq_pick]
    split at h
    · rename_i x hx
      rw [hx]
      rcases cond_cases h with ⟨rfl, h⟩ | ⟨rfl, h⟩ <;> exact optX_some h
    · exact h.elim
  · rename_i x ho
    rw [ho]
    split at h
    · rename_i p hp
      rcases elimP_cases h with ⟨_, h⟩ | ⟨i, o, rfl, h⟩
      · exact h.elim
      · exact ⟨_, by simp [xq_nilCheck, hp], h⟩
    · exact optX_some h
  · rename_i t a ho
    rw [ho]
    split at h
    · rename_i p hp
      rcases elimP_cases h with ⟨_, h⟩ | ⟨i, o, rfl, h⟩
      · exact h.elim
      · obtain ⟨v, hv, hK⟩ := ldX_some h
        exact ⟨v, by simp [xq_load, hp, hv], hK⟩
    · exact h.elim
  · rename_i op t x y _ ho
    rw [ho]
    split at h
    · rename_i a b ha hb
      obtain ⟨v, hv, hK⟩ := binX_some h
      exact ⟨v, by simp [xq_binOp, ha, hb, hv], hK⟩
    · exact h.elim
  · rename_i t x f ho
    rw [ho]
    split at h
    · rename_i fields p hu hp
      rcases elimP_cases h with ⟨_, h⟩ | ⟨i, o, rfl, h⟩
      · exact h.elim
      · split at h
        · rename_i fd hf
          split at h
          · rename_i k hs
            obtain ⟨hc, h⟩ := h
            refine ⟨_, ?_, h⟩
            unfold isC at hc
            simp only [xq_fieldAddr, hu, hp, hf, hs]
            split at hc
            · rename_i hg; rw [hg]
            · cases hc
          · exact h.elim
        · exact h.elim
    · exact h.elim
  · rename_i t x ix ho
    rw [ho]
    split at h
    · rename_i i len elem p hi hu hp
      rcases elimP_cases h with ⟨_, h⟩ | ⟨b, o, rfl, h⟩
      · exact h.elim
      · split at h
        · rename_i sz hs
          exact ⟨_, by simp [xq_indexAddr, hi, hu, hp, hs, h.1], h.2⟩
        · exact h.elim
    · rename_i i elem a len cap hi hu hp
      rcases elimA_cases h with ⟨_, h⟩ | ⟨b, o, s, rfl, h⟩
      · exact h.elim
      · split at h
        · rename_i sz hs
          refine ⟨_, ?_, h.2⟩
          simp only [xq_indexAddr, hi, hu, hp, hs]
          rw [if_pos ⟨h.1.1, h.1.2.1, h.1.2.2.1⟩]
          cases s with
          | none => rfl
          | some t => simp only; rw [if_pos (h.1.2.2.2 (by simp))]; rfl
        · exact h.elim
    · exact h.elim
  · rename_i t x ix ho
    rw [ho]
    split at h
    · rename_i i len elem cs hi hu hp
      split at h
      · rename_i sz hs
        obtain ⟨q, rfl, _, hq, h⟩ := selX_some h
        obtain ⟨v, hv, hK⟩ := optX_some h
        refine ⟨v, ?_, hK⟩
        have e : cs = ⟨cs.toList⟩ := rfl
        rw [e] at hp
        simp only [xq_index, hi, hu, hp, hs]
        rw [if_pos ⟨by omega, by omega⟩]
        simpa using hv
      · exact h.elim
    · exact h.elim
  · rename_i t x lo hi mx ho
    rw [ho]
    split at h
    · rename_i elem a len cap hu hp
      obtain ⟨rlo, hlo, h⟩ := oprX_some h
      obtain ⟨rhi, hhi, h⟩ := oprX_some h
      obtain ⟨rmx, hmx, h⟩ := oprX_some h
      split at h
      · rename_i sz hs
        simp only
        rw [xq_slice_eq hu hp hlo hhi hmx hs]
        rcases elimA_cases h with ⟨rfl, h⟩ | ⟨b, o, s, rfl, h⟩
        · obtain ⟨l, hh, mm, hb, h⟩ := boundsX_some h
          exact ⟨_, by simp only [slcA, hb], h⟩
        · exact resliceX_some h
      · exact h.elim
    · exact h.elim
  · rename_i x _ asserted ok ho
    rw [ho]
    split at h
    · exact h.elim
    · rename_i u t v hnu hu hx
      cases ok with
      | false =>
        obtain ⟨rfl, h⟩ := h
        obtain ⟨u, rfl, hK⟩ := exV_some h
        exact ⟨v, by simp [xq_typeAssert, hx, hu], hK⟩
      | true =>
        rcases cond_cases h with ⟨ht, h⟩ | ⟨ht, h⟩
        · have ht : t = asserted := by simpa using ht
          subst ht
          obtain ⟨u, rfl, hK⟩ := exV_some h
          exact ⟨_, by simp [xq_typeAssert, hx, hu], hK⟩
        · have ht : ¬ t = asserted := by simpa using ht
          split at h
          · rename_i z hz
            refine ⟨_, ?_, h⟩
            simp [xq_typeAssert, hx, hu, ht, hz]
          · exact h.elim
    · exact h.elim
  · rename_i t x k ok ho
    rw [ho]
    split at h
    · rename_i kt elem mp kk kn hu hx hk
      split at h
      · rename_i k0 z hkt hz
        obtain ⟨es, hes, hall, h⟩ := h
        rcases elimE_cases h with ⟨hf, h⟩ | ⟨e, hf, h⟩
        · refine ⟨_, ?_, h⟩
          simp only [xq_lookup, hu, hx, hk, hkt, hz, hes, hall, hf]
          cases ok <;> rfl
        · obtain ⟨u, he, hK⟩ := exV_some h
          refine ⟨_, ?_, hK⟩
          simp only [xq_lookup, hu, hx, hk, hkt, hz, hes, hall, hf, he]
          cases ok <;> rfl
      · exact h.elim
    · exact h.elim
  · rename_i c ho
    rw [ho]
    split at h
    · rename_i t r hc ht hv
      split at h
      · rename_i a b hu
        rcases elimM_cases h with ⟨rfl, h⟩ | ⟨r, rfl, es, clk, hg, h⟩
        · refine ⟨_, ?_, h⟩
          simp only [xq_call, hc, xq_len, ht, hv, hu]
        · refine ⟨_, ?_, h⟩
          simp only [xq_call, hc, xq_len, ht, hv, hu, hg]
      · exact h.elim
    · exact optX_some h
  · exact h.elim
  · obtain ⟨v, hv, hK⟩ := optX_some h
    refine ⟨v, ?_, hK⟩
    simpa [evQX] using hv

/-- What an effect's node says. -/
def EffX (P : Program) (m : Mem) (n : Nat) (sl : Slots) (o : Oper) (F : AFrame → (Value → Mem → Nat → Prop) → Prop) (K : Value → Mem → Nat → Prop) : Prop :=
  (∃ v m' n', evEX P m n sl o = .val v m' n' ∧ K v m' n') ∨ (∃ f args c, evEX P m n sl o = .call f args ∧ enterA P f args .normal = some c ∧ F c K) ∨
    (∃ l args c, evEX P m n sl o = .yield l args ∧ roundA m l args = some c ∧ F c K)

theorem yldX_some {l : Nat} {args : List Value} {n : Nat} {K : Value → Mem → Nat → Prop} (h : yldX P l args m n K) : ∃ c, roundA m l args = some c ∧ W P c m n K := by
  obtain ⟨fr, h1, h2⟩ := h
  exact ⟨fr, h1, h2.mono fun v m n ⟨b, hb, hK⟩ => by subst hb; exact hK⟩

theorem eX_some {call : CallX} {yld : YieldX} {n : Nat} {o : Oper} {K : Value → Mem → Nat → Prop} {F : AFrame → (Value → Mem → Nat → Prop) → Prop}
    (hc : ∀ rt f args K, call rt f args m n K → ∃ c, enterA P f args .normal = some c ∧ F c K) (hy : ∀ l args K, yld l args m n K → ∃ c, roundA m l args = some c ∧ F c K) (h : eX P call yld m n sl o K) : EffX P m n sl o F K := by
  unfold eX at h
  unfold EffX evEX
  split at h
  · rename_i t a x ho
    rw [ho]
    left
    split at h
    · rename_i p v sz hp hv hs
      rcases elimP_cases h with ⟨_, h⟩ | ⟨i, off, rfl, h⟩
      · exact h.elim
      · split at h
        · rename_i hb
          obtain ⟨m', hm, h⟩ := h
          refine ⟨_, _, _, ?_, h⟩
          simp only [xe_store, hp, hv, hs, hm]
          rw [if_pos (Nat.eq_of_beq_eq_true hb)]
        · exact h.elim
    · exact h.elim
  · rename_i t l c ho
    rw [ho]
    left
    split at h
    · rename_i elem l c hu hl hcc
      split at h
      · rename_i info z hi hz
        split at h
        · rename_i hb
          refine ⟨_, _, _, ?_, h.2⟩
          have hb := Nat.eq_of_beq_eq_true hb
          simp only [xe_alloc, evA, ho, hu, ← evOK_eq, hl, hcc, hi, hz]
          rw [if_pos ⟨h.1.1, h.1.2.1, h.1.2.2, hb⟩]
        · exact h.elim
      · exact h.elim
    · exact h.elim
  · rename_i t mp k x ho
    rw [ho]
    left
    split at h
    · rename_i kt el r kk kn v hu hp hk hv
      split at h
      · rename_i k0 hkt
        rcases elimM_cases h with ⟨_, h⟩ | ⟨r, rfl, es, clk, hg, hall, h⟩
        · exact h.elim
        · rcases cond_cases h with ⟨ha, h⟩ | ⟨ha, h⟩
          · exact ⟨_, _, _, by simp only [xe_map, hu, hp, hk, hv, hkt, hg, hall, ha]; rfl, h⟩
          · exact ⟨_, _, _, by simp only [xe_map, hu, hp, hk, hv, hkt, hg, hall, ha]; rfl, h⟩
      · exact h.elim
    · exact h.elim
  · rename_i t mp k x ho
    rw [ho]
    left
    split at h
    · rename_i kt el r kk kn v hu hp hk hv
      split at h
      · rename_i k0 hkt
        rcases elimM_cases h with ⟨_, h⟩ | ⟨r, rfl, es, clk, hg, hall, h⟩
        · exact h.elim
        · rcases cond_cases h with ⟨ha, h⟩ | ⟨ha, h⟩
          · exact ⟨_, _, _, by simp only [xe_map, hu, hp, hk, hv, hkt, hg, hall, ha]; rfl, h⟩
          · exact ⟨_, _, _, by simp only [xe_map, hu, hp, hk, hv, hkt, hg, hall, ha]; rfl, h⟩
      · exact h.elim
    · exact h.elim
  · rename_i t x ho
    rw [ho]
    left
    split at h
    · rename_i a b r hu hx
      rcases elimM_cases h with ⟨rfl, h⟩ | ⟨r, rfl, es, clk, hg, hall, h⟩
      · exact ⟨_, _, _, by simp only [xe_range, hu, hx], h⟩
      · exact ⟨_, _, _, by simp only [xe_range, hu, hx, hg, hall]; rfl, h⟩
    · exact h.elim
  · rename_i c ho
    rw [ho]
    split at h
    · rename_i t0 t1 s x hcal ht hv
      obtain ⟨a, l, cc, m', n', he, h⟩ := h
      exact .inl ⟨_, _, _, by simp only [xe_call, hcal, xe_append, ht, hv, he], h⟩
    · rename_i t0 t1 a len cap b k kcap hcal ht hv
      obtain ⟨r, m', he, h⟩ := h
      exact .inl ⟨_, _, _, by simp only [xe_call, hcal, xe_copy, ht, hv]; exact he, h⟩
    · rename_i t0 a len cap hcal ht hv
      obtain ⟨m', he, h⟩ := h
      exact .inl ⟨_, _, _, by simp only [xe_call, hcal, xe_clear, ht, hv]; exact he, h⟩
    · rename_i f vs hcal hv
      split at h
      · rename_i fv hf
        unfold calleeX at h
        split at h
        · rename_i g first cap
          obtain ⟨fr, h1, h2⟩ := hc _ _ _ _ h
          exact .inr (.inl ⟨_, _, fr, by simp only [xe_call, hcal, xe_value, hf, hv, calleeA], h1, h2⟩)
        · rename_i l first cap
          obtain ⟨fr, h1, h2⟩ := hy _ _ _ h
          exact .inr (.inr ⟨_, _, fr, by simp only [xe_call, hcal, xe_value, hf, hv, calleeA], h1, h2⟩)
        · exact h.elim
      · exact h.elim
    · rename_i recv name vs hcal hv
      split at h
      · rename_i t v hr
        obtain ⟨f, r, hme, h⟩ := methX_some h
        obtain ⟨fr, h1, h2⟩ := hc _ _ _ _ h
        exact .inr (.inl ⟨_, _, fr, by simp only [xe_call, hcal, xe_invoke, hr, hv, hme], h1, h2⟩)
      · exact h.elim
    · exact h.elim
  · rename_i ho
    rw [ho]
    left
    split at h
    · rename_i ob v he
      exact ⟨_, _, _, by simp only [xe_alloc, he], h⟩
    · exact h.elim
  · rename_i ho
    rw [ho]
    left
    split at h
    · rename_i ob v he
      exact ⟨_, _, _, by simp only [xe_alloc, he], h⟩
    · exact h.elim
  · rename_i ho
    rw [ho]
    left
    split at h
    · rename_i ob v he
      exact ⟨_, _, _, by simp only [xe_alloc, he], h⟩
    · exact h.elim
  · rename_i ho
    rw [ho]
    left
    split at h
    · rename_i ob v he
      exact ⟨_, _, _, by simp only [xe_alloc, he], h⟩
    · exact h.elim
  · exact h.elim

theorem wantX_some {ops : Array Oper} {o : Oper} {Ky Kn : Slots → Prop} (h : wantX ops sl o Ky Kn) :
    ∃ sl', (∀ t v, lk sl' t = some v → lk sl t = some v) ∧ ((wantedA ops sl o = some true ∧ wantedA ops sl' o = some true ∧ Ky sl') ∨ (wantedA ops sl o = some false ∧ wantedA ops sl' o = some false ∧ Kn sl')) := by
  unfold wantX at h
  unfold wantedA
  have hput : ∀ {t : Nat} {b : Bool}, lk sl t = some (.bool b) → ∀ s v, lk (put sl t (.bool b)) s = some v → lk sl s = some v := by
    intro t b ht s v hs
    rw [lk_put] at hs
    split at hs
    · rename_i e; subst e; rw [ht]; exact hs
    · exact hs
  split at h
  · rename_i hg
    rw [hg]
    exact ⟨sl, fun _ _ h => h, .inl ⟨rfl, rfl, h⟩⟩
  · rename_i j want hg
    rw [hg]
    simp only
    split at h
    · rename_i t ht
      rw [ht]
      simp only [lkK_eq] at h ⊢
      split at h
      · rename_i b hb
        rw [hb]
        split at h
        · rcases cond_cases h with ⟨rfl, h⟩ | ⟨rfl, h⟩
          · exact ⟨_, hput hb, .inl ⟨rfl, by simp [lk_put], h⟩⟩
          · exact ⟨_, hput hb, .inr ⟨rfl, by simp [lk_put], h⟩⟩
        · rcases cond_cases h with ⟨rfl, h⟩ | ⟨rfl, h⟩
          · exact ⟨_, hput hb, .inr ⟨rfl, by simp [lk_put], h⟩⟩
          · exact ⟨_, hput hb, .inl ⟨rfl, by simp [lk_put], h⟩⟩
      · rename_i v hnb hb
        rw [hb]
        refine ⟨sl, fun _ _ h => h, .inr ?_⟩
        rw [hb]
        cases v with
        | bool b => exact (hnb b rfl).elim
        | _ => exact ⟨rfl, rfl, h⟩
      · exact h.elim
    · rename_i ht
      rw [ht]
      exact ⟨sl, fun _ _ h => h, .inr ⟨rfl, rfl, h⟩⟩
end
end Go.Ab
