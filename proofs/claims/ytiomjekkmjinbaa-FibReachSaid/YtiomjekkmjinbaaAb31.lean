/- The transformer's operations are sound. -/
import Derived.Test.YtiomjekkmjinbaaAb30
namespace Go.Ab
open Go

section
variable {P : Program} {m : Mem} {sl : Slots} {K : Value → Prop}

theorem exK_some : ∀ {k : Kd} {F : Value → Prop}, exK k F → ∃ v, F v
  | .int _, _, ⟨_, h⟩ | .bool, _, ⟨_, h⟩ | .ptr, _, ⟨_, h⟩ | .map, _, ⟨_, h⟩ | .any, _, ⟨_, h⟩ => ⟨_, h⟩
  | .slice, _, ⟨_, _, _, h⟩ | .fn, _, ⟨_, _, _, h⟩ => ⟨_, h⟩
theorem exKs_some : ∀ {ks : List Kd} {F : List Value → Prop}, exKs ks F → ∃ vs, F vs
  | [], _, h => ⟨_, h⟩
  | _ :: ks, _, h => by
    obtain ⟨v, h⟩ := exK_some h
    obtain ⟨vs, h⟩ := exKs_some (ks := ks) h
    exact ⟨_, h⟩
theorem exV_some {t : TypeId} {F : Value → Prop} (h : exV P t F) : ∃ v, F v := by
  unfold exV at h
  split at h
  · obtain ⟨cs, h⟩ := exKs_some h; exact ⟨_, h⟩
  · exact exK_some h
  · exact h.elim
theorem exD_some {dy : TypeId → Option TypeId} {t : TypeId} {F : Value → Prop} (h : exD P dy t F) : ∃ v, F v := by
  unfold exD at h
  split at h
  · obtain ⟨v, h⟩ := exV_some h; exact ⟨_, h⟩
  · exact exV_some h
theorem exVs_some {dy : TypeId → Option TypeId} : ∀ {ts : List TypeId} {F : List Value → Prop}, exVs P dy ts F → ∃ vs, F vs
  | [], _, h => ⟨_, h⟩
  | _ :: ts, _, h => by
    obtain ⟨v, h⟩ := exD_some h
    obtain ⟨vs, h⟩ := exVs_some (ts := ts) h
    exact ⟨_, h⟩
theorem exR_some {dy : TypeId → Option TypeId} {ts : List TypeId} {F : Value → Prop} (h : exR P dy ts F) : ∃ v, F v := by
  unfold exR at h
  split at h
  · exact exD_some h
  · obtain ⟨vs, h⟩ := exVs_some h; exact ⟨_, h⟩

theorem elimP_cases {p : Option Addr} {kn : Prop} {ks : Nat → Nat → Prop} (h : elimP p kn ks) : (p = none ∧ kn) ∨ ∃ i o, p = some ⟨i, o, none⟩ ∧ ks i o := by
  unfold elimP at h
  split at h
  · exact .inl ⟨rfl, h⟩
  · exact .inr ⟨_, _, rfl, h⟩
  · exact h.elim
theorem elimA_cases {p : Option Addr} {kn : Prop} {ks : Nat → Nat → Option Nat → Prop} (h : elimA p kn ks) : (p = none ∧ kn) ∨ ∃ i o s, p = some ⟨i, o, s⟩ ∧ ks i o s := by
  unfold elimA at h
  split at h
  · exact .inl ⟨rfl, h⟩
  · exact .inr ⟨_, _, _, rfl, h⟩
theorem elimM_cases {p : Option Nat} {kn : Prop} {ks : Nat → Prop} (h : elimM p kn ks) : (p = none ∧ kn) ∨ ∃ i, p = some i ∧ ks i := by
  unfold elimM at h
  split at h
  · exact .inl ⟨rfl, h⟩
  · exact .inr ⟨_, rfl, h⟩
theorem elimE_cases {p : Option (Value × Value)} {kn : Prop} {ks : Value × Value → Prop} (h : elimE p kn ks) : (p = none ∧ kn) ∨ ∃ i, p = some i ∧ ks i := by
  unfold elimE at h
  split at h
  · exact .inl ⟨rfl, h⟩
  · exact .inr ⟨_, rfl, h⟩
theorem optX_some {r : Option Value} (h : optX r K) : ∃ v, r = some v ∧ K v := by
  unfold optX at h
  split at h
  · exact ⟨_, rfl, h⟩
  · exact h.elim
theorem cond_cases {b : Bool} {p q : Prop} (h : cond b p q) : (b = true ∧ p) ∨ (b = false ∧ q) := by
  cases b
  · exact .inr ⟨rfl, h⟩
  · exact .inl ⟨rfl, h⟩

theorem ldX_some {t : TypeId} {i off : Nat} (h : ldX P m t i off K) : ∃ v, loadA P m t (.pointer (some ⟨i, off, none⟩)) = some v ∧ K v := by
  unfold ldX at h
  split at h
  · rename_i ha
    obtain ⟨v, h1, h2⟩ := exK_some h
    refine ⟨v, ?_, h2⟩
    simp only [rd] at h1
    simp only [loadA, ha]
    split at h1
    · rename_i hc; rw [hc]; exact h1
    · cases h1
  · rename_i ha
    split at h
    · rename_i sz hs
      obtain ⟨cs, h1, h2⟩ := exKs_some h
      refine ⟨_, ?_, h2⟩
      simp only [rds] at h1
      simp only [loadA, ha, hs]
      split at h1
      · rename_i hc; rw [hc]; simp only [h1]
      · cases h1
    · exact h.elim
  · exact h.elim

theorem methX_some {t : TypeId} {v : Value} {name : String} {K : FuncId → Value → Prop} (h : methX P m t v name K) : ∃ f r, methodA P m t v name = some (f, r) ∧ K f r := by
  unfold methX at h
  unfold methodA
  cases e2 : P.info? t with
  | none => rw [e2] at h; exact h.elim
  | some info =>
    rw [e2] at h
    simp only at h ⊢
    cases e3 : info.methods.find? (fun x => x.name == name) with
    | none => rw [e3] at h; exact h.elim
    | some me =>
      rw [e3] at h
      simp only at h ⊢
      cases e4 : me.path.toList with
      | cons _ _ => rw [e4] at h; simp only at h
      | nil =>
        rw [e4] at h
        cases e5 : me.func with
        | none => rw [e5] at h; simp only at h
        | some q =>
          obtain ⟨f, b⟩ := q
          rw [e5] at h
          cases e6 : P.underlying t with
          | none => rw [e6] at h; cases b <;> simp only at h
          | some d =>
            rw [e6] at h
            cases b with
            | true =>
              cases d <;> first | exact ⟨_, _, rfl, h⟩ | (simp only at h)
            | false =>
              cases d with
              | pointer e =>
                simp only at h
                split at h
                · split at h
                  · obtain ⟨x, h1, h2⟩ := ldX_some h
                    exact ⟨_, _, by show Option.map _ (loadA P m e _) = _; rw [h1]; rfl, h2⟩
                  · exact h.elim
                · exact h.elim
              | _ => exact ⟨_, _, rfl, h⟩

theorem eqA_leaf : ∀ (d : Nat) (t : TypeId) (x y : Value) (b : Bool), eqA P .leaf d t x y = some b → eqA P m d t x y = some b :=
  eqA_mono (fun i o h => by simp [Tr.get] at h)

theorem eqF_sound {d : Nat} {eq : TypeId → Value → Value → Option Bool} (he : ∀ t x y b, eq t x y = some b → eqA P m d t x y = some b) {xs ys : List Value} : ∀ {fs : List Field} {b : Bool}, eqF P eq xs ys fs = some b →
    fs.foldr (fun f acc => if f.name ≠ "_" then
        match partA P f.type xs f.offset, partA P f.type ys f.offset with
        | some a, some b => match eqA P m d f.type a b with
          | some true => acc
          | some false => some false
          | none => none
        | _, _ => none else acc) (some true) = some b
  | [], b, h => by simpa [eqF] using h
  | f :: fs, b, h => by
    simp only [eqF] at h
    split at h
    · rename_i a c ha hc
      split at h
      · rename_i u v hu hv
        split at h
        · cases h
        · rename_i hn
          simp only [Option.some.injEq] at h
          have hn' : f.name ≠ "_" := by
            intro e
            rw [e] at hn
            simp at hn
          rw [List.foldr_cons, if_pos hn', ha, hc]
          simp only [he _ _ _ _ hu, eqF_sound he hv]
          cases u <;> simp_all
      · cases h
    · cases h

theorem eqN_sound : ∀ (d : Nat) (t : TypeId) (x y : Value) (b : Bool), eqN P d t x y = some b → eqA P m d t x y = some b
  | 0, _, _, _, _, h => by cases h
  | d + 1, t, x, y, b, h => by
    unfold eqN at h
    split at h
    · rename_i xs ys
      split at h
      · rename_i fs hu
        split at h
        · cases h
        · rename_i hg
          rw [eqA.eq_def]
          simp only [hu, hg]
          exact eqF_sound (eqN_sound d) h
      · cases h
    · exact eqA_leaf _ _ _ _ _ h

theorem eqS_sound {t : TypeId} {xs ys : List Value} {b : Bool} (h : eqS P t xs ys = some b) : P.eqGuardType P.depth t = false ∧ eqA P m 100 t (.agg ⟨xs⟩) (.agg ⟨ys⟩) = some b := by
  unfold eqS at h
  split at h
  · rename_i fs hu
    split at h
    · cases h
    · rename_i hg
      simp only [Bool.or_eq_false_iff] at hg
      refine ⟨hg.2, ?_⟩
      rw [eqA.eq_def]
      simp only [hu, hg.1]
      exact eqF_sound (eqN_sound 99) h
  · cases h

theorem neX_some {op : BinOp} {b : Bool} {v : Value} (h : neX op b = some v) : (op = .eql ∧ v = .bool b) ∨ (op = .neq ∧ v = .bool !b) := by
  unfold neX at h
  split at h <;> simp_all

theorem binA_eq {op : BinOp} {t : TypeId} {x y : Value} {b : Bool} {v : Value} (hn : neX op b = some v) (he : eqA P m 100 t x y = some b)
    (hs : (∃ p q, x = .pointer p ∧ y = .pointer q) ∨ (∃ p q, x = .map p ∧ y = .map q) ∨ (∃ a l c a' l' c', x = .slice a l c ∧ y = .slice a' l' c')) : binA P m op t x y = some v := by
  rcases neX_some hn with ⟨rfl, rfl⟩ | ⟨rfl, rfl⟩ <;>
  rcases hs with ⟨p, q, rfl, rfl⟩ | ⟨p, q, rfl, rfl⟩ | ⟨a, l, c, a', l', c', rfl, rfl⟩ <;> simp [binA, he]

theorem binX_some {op : BinOp} {t : TypeId} {x y : Value} (h : binX P m op t x y K) : ∃ v, binA P m op t x y = some v ∧ K v := by
  unfold binX at h
  split at h
  · rename_i k a k' b
    split at h
    · obtain ⟨hb, h⟩ := h
      exact ⟨_, by simp [binA, shiftA, Int.not_lt.2 hb], h⟩
    · obtain ⟨hb, h⟩ := h
      exact ⟨_, by simp [binA, shiftA, Int.not_lt.2 hb], h⟩
    · split at h
      · rename_i hk
        have hk := of_decide_eq_true hk
        exact ⟨_, by simp [binA, intA, hk, h.1], h.2⟩
      · exact h.elim
    · split at h
      · rename_i hk
        have hk := of_decide_eq_true hk
        exact ⟨_, by simp [binA, intA, hk, h.1], h.2⟩
      · exact h.elim
    · rename_i h1 h2 h3 h4
      split at h
      · rename_i hk
        have hk := of_decide_eq_true hk
        obtain ⟨v, hv, hK⟩ := optX_some h
        refine ⟨v, ?_, hK⟩
        cases op <;> first | exact (h1 rfl).elim | exact (h2 rfl).elim | (subst hk; simpa [binA] using hv)
      · exact h.elim
  · rename_i p q
    split at h
    · rename_i e hu
      rcases elimP_cases h with ⟨rfl, h2⟩ | ⟨i, o, rfl, h2⟩
      · obtain ⟨v, hv, hK⟩ := optX_some h2
        refine ⟨v, binA_eq hv ?_ (.inl ⟨_, _, rfl, rfl⟩), hK⟩
        rw [eqA.eq_def]
        cases p <;> simp [hu]
      · rcases elimP_cases h2 with ⟨rfl, h3⟩ | ⟨i, o, rfl, h3⟩
        · obtain ⟨v, hv, hK⟩ := optX_some h3
          exact ⟨v, binA_eq hv (by rw [eqA.eq_def]; simp [hu]) (.inl ⟨_, _, rfl, rfl⟩), hK⟩
        · exact h3.elim
    · exact h.elim
  · rename_i p q
    split at h
    · rename_i e f hu
      rcases elimM_cases h with ⟨rfl, h2⟩ | ⟨i, rfl, h2⟩
      · obtain ⟨v, hv, hK⟩ := optX_some h2
        refine ⟨v, binA_eq hv ?_ (.inr (.inl ⟨_, _, rfl, rfl⟩)), hK⟩
        rw [eqA.eq_def]
        cases p <;> simp [hu]
      · rcases elimM_cases h2 with ⟨rfl, h3⟩ | ⟨i, rfl, h3⟩
        · obtain ⟨v, hv, hK⟩ := optX_some h3
          exact ⟨v, binA_eq hv (by rw [eqA.eq_def]; simp [hu]) (.inr (.inl ⟨_, _, rfl, rfl⟩)), hK⟩
        · exact h3.elim
    · exact h.elim
  · rename_i a l c b l' c'
    split at h
    · rename_i e hu
      rcases elimA_cases h with ⟨rfl, h2⟩ | ⟨_, _, _, rfl, h2⟩
      · rcases elimA_cases h2 with ⟨rfl, h3⟩ | ⟨i, o, s, rfl, r, hr, h3⟩
        · obtain ⟨v, hv, hK⟩ := optX_some h3
          exact ⟨v, binA_eq hv (by rw [eqA.eq_def]; simp [hu]) (.inr (.inr ⟨_, _, _, _, _, _, rfl, rfl⟩)), hK⟩
        · obtain ⟨v, hv, hK⟩ := optX_some h3
          refine ⟨v, binA_eq hv ?_ (.inr (.inr ⟨_, _, _, _, _, _, rfl, rfl⟩)), hK⟩
          unfold nilAt at hr
          rw [eqA.eq_def]
          simp only [hu]
          split at hr <;> rename_i hg <;> simp_all
      · exact h2.elim
    · exact h.elim
  · rename_i xs ys
    split at h
    · rename_i b hb
      obtain ⟨v, hv, hK⟩ := optX_some h
      obtain ⟨h1, h2⟩ := eqS_sound (m := m) hb
      refine ⟨v, ?_, hK⟩
      have e1 : xs = ⟨xs.toList⟩ := rfl
      have e2 : ys = ⟨ys.toList⟩ := rfl
      rcases neX_some hv with ⟨rfl, rfl⟩ | ⟨rfl, rfl⟩
      · simp only [binA, h1]
        rw [e1, e2]
        simp [h2]
      · simp only [binA, h1]
        rw [e1, e2]
        simp [h2]
    · exact h.elim
  · exact optX_some h

theorem selX_some {i : Int} {F : Nat → Prop} : ∀ {k j : Nat}, selX i F j k → ∃ q : Nat, i = (q : Int) ∧ j ≤ q ∧ q < j + k ∧ F q
  | 0, _, h => h.elim
  | k + 1, j, h => by
    rcases cond_cases h with ⟨hb, h⟩ | ⟨_, h⟩
    · exact ⟨j, by simpa using hb, Nat.le_refl _, by omega, h⟩
    · obtain ⟨q, h1, h2, h3, h4⟩ := selX_some h
      exact ⟨q, h1, by omega, by omega, h4⟩

theorem boundX_some {x : Value} {y : Nat} {F : Nat → Prop} (h : boundX x y F) : ∃ l, boundA x y = some l ∧ F l := by
  unfold boundX at h
  split at h
  · exact ⟨_, by simp [boundA, h.1], h.2⟩
  · exact h.elim
def bndA (v : Option Value) (y d : Nat) : Option Nat :=
  match v with
  | some v => boundA v y
  | none => some d
theorem bndX_some {x : Option Value} {y d : Nat} {F : Nat → Prop} (h : bndX x y d F) : ∃ l, bndA x y d = some l ∧ F l := by
  unfold bndX at h
  split at h
  · exact boundX_some h
  · exact ⟨_, rfl, h⟩
theorem boundsA_of {len cap l h m' : Nat} {lo hi mx : Option Value} (h1 : bndA mx cap cap = some m') (h2 : bndA hi m' len = some h) (h3 : bndA lo h 0 = some l) (hn : hi = none → mx = none) :
    boundsA len cap lo hi mx = some (l, h, m') := by
  unfold boundsA
  cases lo <;> cases hi <;> cases mx <;> simp only [bndA] at h1 h2 h3 <;> first | (simp only [h1, h2, h3]; done) | (simp_all; done)
theorem boundsX_some {len cap : Nat} {lo hi mx : Option Value} {F : Nat → Nat → Nat → Prop} (h : boundsX len cap lo hi mx F) :
    ∃ l hh mm, boundsA len cap lo hi mx = some (l, hh, mm) ∧ F l hh mm := by
  unfold boundsX at h
  obtain ⟨mm, hm, h⟩ := bndX_some h
  split at h
  · exact h.elim
  · rename_i hno
    obtain ⟨hh, hhh, h⟩ := bndX_some h
    obtain ⟨l, hl, h⟩ := bndX_some h
    refine ⟨l, hh, mm, boundsA_of hm hhh hl ?_, h⟩
    intro e
    cases mx with
    | none => rfl
    | some w => exact (hno w e rfl).elim

theorem resliceX_some {sz i o len cap : Nat} {s : Option Nat} {lo hi mx : Option Value} (h : resliceX sz i o s len cap lo hi mx K) : ∃ v, resliceA sz i o s len cap lo hi mx = some v ∧ K v := by
  unfold resliceX at h
  obtain ⟨l, hh, mm, hb, h⟩ := boundsX_some h
  simp only [resliceA, hb]
  rcases elimM_cases h with ⟨rfl, h⟩ | ⟨t, rfl, h⟩
  · exact ⟨_, rfl, h⟩
  · cases mx with
    | some w => exact ⟨_, if_pos h.1, h.2⟩
    | none => exact ⟨_, (if_pos h.1.1).trans (if_pos h.1.2), h.2⟩

noncomputable def oprA (sl : Slots) (x : Option Operand) : Option (Option Value) :=
  match x with
  | some v => (evOK sl v).map some
  | none => some none
theorem oprX_some {x : Option Operand} {F : Option Value → Prop} (h : oprX sl x F) : ∃ r, oprA sl x = some r ∧ F r := by
  unfold oprX at h
  split at h
  · exact ⟨none, rfl, h⟩
  · split at h
    · rename_i v hv
      exact ⟨some v, by simp [oprA, hv], h⟩
    · exact h.elim
def slcA (sz : Nat) (a : Option Addr) (len cap : Nat) (lo hi mx : Option Value) : Option Value :=
  match a with
  | none => match boundsA len cap lo hi mx with
    | some (l, h, m) => some (.slice none (h - l) (m - l))
    | none => none
  | some ⟨i, o, s⟩ => resliceA sz i o s len cap lo hi mx
theorem xq_slice_eq {P : Program} {m : Mem} {t : TypeId} {x : Operand} {lo hi mx : Option Operand} {elem : TypeId} {a : Option Addr} {len cap sz : Nat} {rlo rhi rmx : Option Value} (hu : P.underlying t = some (.slice elem))
    (hx : evOK sl x = some (.slice a len cap)) (hlo : oprA sl lo = some rlo) (hhi : oprA sl hi = some rhi) (hmx : oprA sl mx = some rmx) (hs : szOf P elem = some sz) :
    xq_slice P m sl t x lo hi mx = slcA sz a len cap rlo rhi rmx := by
  unfold xq_slice slcA
  simp only [hu, hx]
  cases a with
  | none => cases lo <;> cases hi <;> cases mx <;> simp only [oprA, Option.map_eq_some_iff, Option.some.injEq] at hlo hhi hmx <;> (try obtain ⟨_, hlo, rfl⟩ := hlo) <;> (try obtain ⟨_, hhi, rfl⟩ := hhi) <;>
      (try obtain ⟨_, hmx, rfl⟩ := hmx) <;> (try subst hlo) <;> (try subst hhi) <;> (try subst hmx) <;> simp only [*, Option.map_some] <;> (generalize boundsA len cap _ _ _ = r; rcases r with _ | ⟨_, _, _⟩ <;> rfl)
  | some a => cases lo <;> cases hi <;> cases mx <;> simp only [oprA, Option.map_eq_some_iff, Option.some.injEq] at hlo hhi hmx <;> (try obtain ⟨_, hlo, rfl⟩ := hlo) <;> (try obtain ⟨_, hhi, rfl⟩ := hhi) <;>
      (try obtain ⟨_, hmx, rfl⟩ := hmx) <;> (try subst hlo) <;> (try subst hhi) <;> (try subst hmx) <;> simp only [*, Option.map_some]
end
end Go.Ab
