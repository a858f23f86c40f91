/- The judgement W: what a frame comes to, whatever real machine it stands for. -/
import Derived.Test.YtiomjekkmjinbaaAb14
namespace Go.Ab
open Go

/-- From this frame and memory, in every real machine that they stand for, the frame ends, and what it hands back meets Q. -/
def W (P : Program) (fr : AFrame) (m : Mem) (n : Nat) (Q : Value → Mem → Nat → Prop) : Prop :=
  ∀ H β w rf, RelF β ⟨H, n⟩ fr rf → RelM β ⟨H, n⟩ m w → ∃ v m' n' β' w', Q v m' n' ∧ Ex β ⟨H, n⟩ m w β' ⟨H, n'⟩ m' w' ∧ blw ⟨H, n'⟩ v = true ∧
    ∀ cs, ∃ w1 rf', Steps P (lone rf cs w) (lone rf' cs w1) ∧ Done P rf' w1 (ren β' v) w' ∧ Same rf rf'

section
variable {P : Program} {fr : AFrame} {m : Mem} {n : Nat} {Q : Value → Mem → Nat → Prop}

theorem W.mono {R : Value → Mem → Nat → Prop} (h : W P fr m n Q) (hq : ∀ v m n, Q v m n → R v m n) : W P fr m n R := fun H β w rf hf hm =>
  have ⟨v, m', n', β', w', h1, h2⟩ := h H β w rf hf hm
  ⟨v, m', n', β', w', hq _ _ _ h1, h2⟩

theorem W.go (keep : FuncId → Option (List Nat)) {fr' : AFrame} {m' : Mem} {n' : Nat} (hs : stepA P keep fr m n = .go fr' m' n') (h : W P fr' m' n' Q) : W P fr m n Q := by
  intro H β w rf hf hm
  have hsd : OutS P β ⟨H, n⟩ m w rf (stepA P keep fr m n) := stepA_sound (P := P) keep hm hf
  rw [hs] at hsd
  obtain ⟨β1, w1, rf1, ex, hf1, sm, st⟩ := hsd
  obtain ⟨v, m2, n2, β2, w2, q, ex2, hb, hr⟩ := h H β1 w1 rf1 hf1 ex.rel
  refine ⟨v, m2, n2, β2, w2, q, ex.trans ex2, hb, fun cs => ?_⟩
  obtain ⟨w3, rf3, s1, d, sm2⟩ := hr cs
  exact ⟨w3, rf3, .head (st cs) s1, d, sm.trans sm2⟩

theorem W.ret (keep : FuncId → Option (List Nat)) {v : Value} {m' : Mem} {n' : Nat} (hs : stepA P keep fr m n = .ret v m' n') (h : Q v m' n') : W P fr m n Q := by
  intro H β w rf hf hm
  have hsd : OutS P β ⟨H, n⟩ m w rf (stepA P keep fr m n) := stepA_sound (P := P) keep hm hf
  rw [hs] at hsd
  obtain ⟨β1, w1, ex, hb, d⟩ := hsd
  exact ⟨v, m', n', β1, w1, h, ex, hb, fun cs => ⟨w, rf, .refl _ _, d, Same.refl rf⟩⟩

theorem W.alts (keep : FuncId → Option (List Nat)) {l : List (AFrame × Mem × Nat)} (hs : stepA P keep fr m n = .alts l) (h : ∀ x ∈ l, W P x.1 x.2.1 x.2.2 Q) : W P fr m n Q := by
  intro H β w rf hf hm
  have hsd : OutS P β ⟨H, n⟩ m w rf (stepA P keep fr m n) := stepA_sound (P := P) keep hm hf
  rw [hs] at hsd
  obtain ⟨x, hx, β1, w1, rf1, ex, hf1, sm, st⟩ := hsd
  obtain ⟨v, m2, n2, β2, w2, q, ex2, hb, hr⟩ := h x hx H β1 w1 rf1 hf1 ex.rel
  refine ⟨v, m2, n2, β2, w2, q, ex.trans ex2, hb, fun cs => ?_⟩
  obtain ⟨w3, rf3, s1, d, sm2⟩ := hr cs
  exact ⟨w3, rf3, .head (st cs) s1, d, sm.trans sm2⟩

theorem W.call (keep : FuncId → Option (List Nat)) {c fr' : AFrame} {m' : Mem} {n' : Nat} {R : Value → Mem → Nat → Prop} (hs : stepA P keep fr m n = .call c fr' m' n') (hc : W P c m' n' R)
    (h : ∀ v m n, R v m n → W P (afterA c.kind fr' v) m n Q) : W P fr m n Q := by
  intro H β w rf hf hm
  have hsd : OutS P β ⟨H, n⟩ m w rf (stepA P keep fr m n) := stepA_sound (P := P) keep hm hf
  rw [hs] at hsd
  obtain ⟨β1, w1, rc, rf1, ex, hfc, hf1, sm, st, hk⟩ := hsd
  obtain ⟨v, m2, n2, β2, w2, q, ex2, hb, hr⟩ := hc H β1 w1 rc hfc ex.rel
  have hf2 := hf1.agree ex2.le ex2.agree
  obtain ⟨rf2, hf3, sm3, st3⟩ : ∃ rf2, RelF β2 ⟨H, n2⟩ (afterA c.kind fr' v) rf2 ∧ Same rf1 rf2 ∧ ∀ (rx : Frame) (wx : World), Done P rx wx (ren β2 v) w2 → Same rc rx → ∀ cs, step P (lone rx (rf1 :: cs) wx) = .next (lone rf2 cs w2) := by
    rcases hk with ⟨hk, hfin⟩ | ⟨hk, hret⟩
    · obtain ⟨f1, f2⟩ := hfin β2 ⟨H, n2⟩ rf1 v hf2 hb
      refine ⟨rf1.finish (ren β2 v), ?_, f2, fun rx wx hd hsm cs => leave_normal hd (by rw [hsm.kind, hfc.kind, hk])⟩
      rw [hk]; exact f1
    · refine ⟨rf1, ?_, Same.refl rf1, fun rx wx hd hsm cs => leave_deferred hd (by rw [hsm.kind, hfc.kind, hk]) (by rw [hf1.mode, hret]; rfl)⟩
      rw [hk]; exact hf2
  obtain ⟨v4, m4, n4, β4, w4, q4, ex4, hb4, hr4⟩ := h v m2 n2 q H β2 w2 rf2 hf3 ex2.rel
  refine ⟨v4, m4, n4, β4, w4, q4, (ex.trans ex2).trans ex4, hb4, fun cs => ?_⟩
  obtain ⟨wx, rx, s1, d1, sm1⟩ := hr (rf1 :: cs)
  obtain ⟨wy, ry, s2, d2, sm2⟩ := hr4 cs
  exact ⟨wy, ry, .head (st cs) (s1.trans (.head (st3 rx wx d1 sm1 cs) s2)), d2, sm.trans (sm3.trans sm2)⟩

theorem bindAll_mem {rs : List (Value × Mem × Nat)} {f : Value → Mem → Nat → Res} {out : List (Value × Mem × Nat)} (h : bindAll rs f = some out) :
    ∀ v m n, (v, m, n) ∈ rs → ∃ o, f v m n = some o ∧ ∀ x ∈ o, x ∈ out := by
  induction rs generalizing out with
  | nil => intro v m n hx; cases hx
  | cons r rs ih =>
    obtain ⟨v, m, n⟩ := r
    simp only [bindAll] at h
    split at h
    · cases h
    · rename_i a ha
      split at h
      · cases h
      · rename_i b hb
        simp only [Option.some.injEq] at h; subst h
        intro v' m' n' hx
        rcases List.mem_cons.1 hx with e | hx
        · cases e; exact ⟨a, ha, fun x hx => List.mem_append_left _ hx⟩
        · obtain ⟨o, h1, h2⟩ := ih hb v' m' n' hx
          exact ⟨o, h1, fun x hx => List.mem_append_right _ (h2 x hx)⟩
theorem bindFr_mem {rs : List (AFrame × Mem × Nat)} {f : AFrame → Mem → Nat → Res} {out : List (Value × Mem × Nat)} (h : bindFr rs f = some out) :
    ∀ x ∈ rs, ∃ o, f x.1 x.2.1 x.2.2 = some o ∧ ∀ y ∈ o, y ∈ out := by
  induction rs generalizing out with
  | nil => intro x hx; cases hx
  | cons r rs ih =>
    obtain ⟨v, m, n⟩ := r
    simp only [bindFr] at h
    split at h
    · cases h
    · rename_i a ha
      split at h
      · cases h
      · rename_i b hb
        simp only [Option.some.injEq] at h; subst h
        intro x hx
        rcases List.mem_cons.1 hx with e | hx
        · subst e; exact ⟨a, ha, fun x hx => List.mem_append_left _ hx⟩
        · obtain ⟨o, h1, h2⟩ := ih hb x hx
          exact ⟨o, h1, fun x hx => List.mem_append_right _ (h2 x hx)⟩

/-- What the evaluator of calls must be for a region that draws. -/
def RecOk (P : Program) (rec : AFrame → Mem → Nat → Res) : Prop :=
  ∀ c m n rs, rec c m n = some rs → W P c m n fun v m' n' => (v, m', n') ∈ rs

def DrawOk (P : Program) : Prop :=
  ∀ (keep : FuncId → Option (List Nat)) (rec : AFrame → Mem → Nat → Res), RecOk P rec → ∀ fr m n ops fr' m' n' sl m2 n2 Q, stepA P keep fr m n = .draw ops fr' m' n' → drawA P rec ops fr'.nt fr'.slots m' n' = some (sl, m2, n2) →
    W P { fr' with slots := prune (keep fr'.fn) sl } m2 n2 Q → W P fr m n Q

theorem evalF_sound (hd : DrawOk P) (keep : FuncId → Option (List Nat)) : ∀ (f : Nat) (fr : AFrame) (m : Mem) (n : Nat) (rs : List (Value × Mem × Nat)), evalF P keep f fr m n = some rs →
    W P fr m n fun v m' n' => (v, m', n') ∈ rs := by
  intro f
  induction f with
  | zero => intro fr m n rs h; simp [evalF] at h
  | succ f ih =>
    intro fr m n rs h
    simp only [evalF] at h
    split at h
    · rename_i fr' m' n' hs
      exact W.go keep hs (ih _ _ _ _ h)
    · rename_i c fr' m' n' hs
      split at h
      · cases h
      · rename_i rs1 h1
        refine W.call keep hs (ih _ _ _ _ h1) fun v m2 n2 hv => ?_
        obtain ⟨o, ho, hsub⟩ := bindAll_mem h v m2 n2 hv
        exact (ih _ _ _ _ ho).mono fun v m n hx => hsub _ hx
    · rename_i l hs
      refine W.alts keep hs fun x hx => ?_
      obtain ⟨o, ho, hsub⟩ := bindFr_mem h x hx
      exact (ih _ _ _ _ ho).mono fun v m n hx => hsub _ hx
    · rename_i ops fr' m' n' hs
      split at h
      · rename_i sl m2 n2 hdr
        exact hd keep _ (fun c m n rs hc => ih c m n rs hc) _ _ _ _ _ _ _ _ _ _ _ hs hdr (ih _ _ _ _ h)
      · cases h
    · rename_i v m' n' hs
      simp only [Option.some.injEq] at h; subst h
      exact W.ret keep hs (List.mem_singleton.2 rfl)
    · cases h
end
end Go.Ab
