/- What came in, read as data, as abstract values over blocks that are not written. -/
import Derived.Test.YtiomjekkmjinbaaAb35
import Derived.ChangeArms
import Derived.OpenShut
namespace Go.Ab
open Go Go.ChangeShapes

def offsB (P : Program) : Nat → List Field → Bool
  | _, [] => true
  | acc, f :: l => f.offset == acc && offsB P (acc + P.cellsOf f.type) l
/-- Types of plain data, closed. -/
def plainB (P : Program) (L : List TypeId) : Bool :=
  L.all fun t => match P.underlying t with
    | some .bool => true
    | some (.int _) => true
    | some .string => true
    | some (.slice e) => L.contains e && decide (0 < P.cellsOf e)
    | some (.struct fs) => fs.toList.all (fun f => L.contains f.type) && (offsB P 0 fs.toList && decide (P.cellsOf t = (fs.toList.map fun f => P.cellsOf f.type).sum))
    | _ => false

/-- A value of plain data, by its cells. -/
def TyC (P : Program) (m : Mem) : Nat → TypeId → List Value → Prop
  | 0, _, _ => False
  | f + 1, t, cs => match P.underlying t with
    | some .bool => ∃ b, cs = [.bool b]
    | some (.int k) => ∃ x, cs = [.int k x] ∧ (Lit.int k x).wf = true
    | some .string => ∃ s, cs = [.string s]
    | some (.slice e) => ∃ id len cap nl es, cs = [.slice (some ⟨id, 0, none⟩) len cap] ∧ len ≤ cap ∧ cap ≤ maxLen ∧ es.length = len ∧ m.get id = some (.cells (some nl) e (P.cellsOf e) es.flatten) ∧ (nl = true → es = []) ∧
        ∀ x ∈ es, x.length = P.cellsOf e ∧ TyC P m f e x
    | some (.struct fs) => ∃ parts : List (List Value), cs = parts.flatten ∧ parts.length = fs.toList.length ∧
        ∀ (i : Nat) fd p, fs.toList[i]? = some fd → parts[i]? = some p → p.length = P.cellsOf fd.type ∧ TyC P m f fd.type p
    | _ => False

structure RO (β : Beta) (n : Nat) (m : Mem) (w : World) : Prop where
  rel : RelM β ⟨fun _ => false, n⟩ m w
  ro : ∀ i o, m.get i = some o → own o = false
/-- More blocks, the old ones as they were. -/
structure Mo (β : Beta) (n : Nat) (m : Mem) (β' : Beta) (n' : Nat) (m' : Mem) : Prop where
  le : n ≤ n'
  agree : ∀ i, i < n → β' i = β i
  same : ∀ i, i < n → m'.get i = m.get i
theorem Mo.refl (β : Beta) (n : Nat) (m : Mem) : Mo β n m β n m := ⟨Nat.le_refl _, fun _ _ => rfl, fun _ _ => rfl⟩
theorem Mo.trans {β β1 β2 : Beta} {n n1 n2 : Nat} {m m1 m2 : Mem} (h : Mo β n m β1 n1 m1) (k : Mo β1 n1 m1 β2 n2 m2) : Mo β n m β2 n2 m2 :=
  ⟨Nat.le_trans h.le k.le, fun i hi => (k.agree i (Nat.lt_of_lt_of_le hi h.le)).trans (h.agree i hi), fun i hi => (k.same i (Nat.lt_of_lt_of_le hi h.le)).trans (h.same i hi)⟩

section
variable {P : Program}

abbrev D0 (n : Nat) : Dm := ⟨fun _ => false, n⟩
theorem has_D0 {n i : Nat} : (D0 n).has i = true ↔ i < n := by simp [Dm.has]
theorem Mo.ren {β β' : Beta} {n n' : Nat} {m m' : Mem} (h : Mo β n m β' n' m') {cs : List Value} (hb : blwL (D0 n) cs = true) : renL β' cs = renL β cs :=
  renL_agree (fun i hi => h.agree i (has_D0.1 hi)) cs hb
theorem Mo.blw {β β' : Beta} {n n' : Nat} {m m' : Mem} (h : Mo β n m β' n' m') {cs : List Value} (hb : blwL (D0 n) cs = true) : blwL (D0 n') cs = true :=
  blwL_mono (fun _ hi => has_D0.2 (Nat.lt_of_lt_of_le (has_D0.1 hi) h.le)) cs hb

theorem TyC.more {m m' : Mem} {n : Nat} (hs : ∀ i, i < n → m'.get i = m.get i) (hl : ∀ i o, m.get i = some o → i < n) : ∀ (f : Nat) {t : TypeId} {cs : List Value}, TyC P m f t cs → TyC P m' f t cs
  | 0, _, _, h => h.elim
  | f + 1, t, cs, h => by
    unfold TyC at h ⊢
    split at h
    · exact h
    · exact h
    · exact h
    · obtain ⟨id, len, cap, nl, es, h1, h2, h3, h4, h5, h6, h7⟩ := h
      exact ⟨id, len, cap, nl, es, h1, h2, h3, h4, (hs id (hl id _ h5)).trans h5, h6, fun x hx => ⟨(h7 x hx).1, TyC.more hs hl f (h7 x hx).2⟩⟩
    · obtain ⟨parts, h1, h2, h3⟩ := h
      exact ⟨parts, h1, h2, fun i fd p hi hp => ⟨(h3 i fd p hi hp).1, TyC.more hs hl f (h3 i fd p hi hp).2⟩⟩
    · exact h.elim

theorem flat_get {sz : Nat} (hz : 0 < sz) : ∀ {es : List (List Value)}, (∀ x ∈ es, x.length = sz) → ∀ (q r : Nat), r < sz → es.flatten[q * sz + r]? = (es[q]?).bind (·[r]?)
  | [], _, q, r, _ => by simp
  | e :: es, h, q, r, hr => by
    have he := h e (List.mem_cons_self ..)
    cases q with
    | zero =>
      rw [List.flatten_cons, List.getElem?_append_left (by omega)]
      simp
    | succ q =>
      rw [List.flatten_cons, List.getElem?_append_right (by rw [he, Nat.succ_mul]; omega)]
      have : (q + 1) * sz + r - e.length = q * sz + r := by rw [he, Nat.succ_mul]; omega
      rw [this, flat_get hz (fun x hx => h x (List.mem_cons_of_mem _ hx)) q r hr]
      simp

variable {H : Type} {enc : TypeId × Value → H} {w : World}

/-- What is wanted of a reading. -/
def Abs (P : Program) (w : World) (f : Nat) (t : TypeId) (cs : List Value) : Prop :=
  ∀ β n m, RO β n m w → ∃ β' n' m' cs', Mo β n m β' n' m' ∧ RO β' n' m' w ∧ blwL (D0 n') cs' = true ∧ renL β' cs' = cs ∧ TyC P m' f t cs'

theorem abs_list {f : Nat} : ∀ (l : List (TypeId × List Value)), (∀ x ∈ l, Abs P w f x.1 x.2) → ∀ β n m, RO β n m w →
    ∃ β' n' m', ∃ es : List (List Value), Mo β n m β' n' m' ∧ RO β' n' m' w ∧ (∀ e ∈ es, blwL (D0 n') e = true) ∧ es.map (renL β') = l.map (·.2) ∧
      ∀ (i : Nat) x e, l[i]? = some x → es[i]? = some e → TyC P m' f x.1 e
  | [], _, β, n, m, h => ⟨β, n, m, [], Mo.refl .., h, (fun e he => by cases he), rfl, (fun i x e hx => by simp at hx)⟩
  | x :: l, hl, β, n, m, h => by
    obtain ⟨β1, n1, m1, c1, a1, a2, a3, a4, a5⟩ := hl x (List.mem_cons_self ..) β n m h
    obtain ⟨β2, n2, m2, es, b1, b2, b3, b4, b5⟩ := abs_list l (fun y hy => hl y (List.mem_cons_of_mem _ hy)) β1 n1 m1 a2
    refine ⟨β2, n2, m2, c1 :: es, a1.trans b1, b2, fun e he => ?_, ?_, fun i y e hy he => ?_⟩
    · rcases List.mem_cons.1 he with rfl | he
      · exact b1.blw a3
      · exact b3 e he
    · rw [List.map_cons, List.map_cons, b4, b1.ren a3, a4]
    · cases i with
      | zero =>
        simp only [List.getElem?_cons_zero, Option.some.injEq] at hy he
        subst hy; subst he
        exact TyC.more b1.same (fun i o ho => has_D0.1 (a2.rel.obj i o ho).1) f a5
      | succ i => exact b5 i y e (by simpa using hy) (by simpa using he)

theorem RO.new {β : Beta} {n : Nat} {m : Mem} (h : RO β n m w) (l : Loc) (o : AObj) (ho : own o = false) (hr : ObjR (upd β n l) (D0 (n + 1)) w l o) :
    Mo β n m (upd β n l) (n + 1) (m.set n o) ∧ RO (upd β n l) (n + 1) (m.set n o) w := by
  have hne : ∀ i, i < n → n ≠ i := fun i hi => by omega
  have hlt : ∀ i ob, m.get i = some ob → i < n := fun i ob hi => has_D0.1 (h.rel.obj i ob hi).1
  refine ⟨⟨by omega, fun i hi => upd_ne _ _ (by omega), fun i hi => by rw [Tr.get_set, if_neg (hne i hi)]⟩, ⟨(fun i hi => by cases hi), fun i ob hi => ?_, fun i j oi oj hij hi hj hown => ?_⟩, fun i ob hi => ?_⟩
  · rw [Tr.get_set] at hi
    split at hi
    · rename_i e; subst e
      cases hi
      exact ⟨has_D0.2 (by omega), by rw [upd_self]; exact hr⟩
    · obtain ⟨h1, h2⟩ := h.rel.obj i ob hi
      refine ⟨has_D0.2 (by have := has_D0.1 h1; omega), ?_⟩
      rw [upd_ne _ _ (by have := has_D0.1 h1; omega)]
      exact h2.agree (fun i hi => has_D0.2 (by have := has_D0.1 hi; omega)) (fun i hi => upd_ne _ _ (by have := has_D0.1 hi; omega))
  · have : own oi = false := by
      rw [Tr.get_set] at hi
      split at hi
      · cases hi; exact ho
      · exact h.ro i oi hi
    rw [this] at hown; cases hown
  · rw [Tr.get_set] at hi
    split at hi
    · cases hi; exact ho
    · exact h.ro i ob hi

theorem abs_of {L : List TypeId} (hp : plainB P L = true) : ∀ (f : Nat) (t : TypeId) (cs : List Value) (x : DataW H × List MemPlace), t ∈ L → DataW.trod enc P w 0 (fun _ => true) true f t cs = some x → Abs P w f t cs := by
  intro f
  induction f with
  | zero => intro t cs x _ h; simp [DataW.trod] at h
  | succ f ih =>
    intro t cs x ht h β n m hro
    have hpt := List.all_eq_true.1 hp t ht
    split at hpt
    · rename_i hu
      obtain ⟨b, rfl, _⟩ := DataW.trod_bool hu h
      exact ⟨β, n, m, [.bool b], Mo.refl .., hro, rfl, rfl, by simp only [TyC, hu]; exact ⟨b, rfl⟩⟩
    · rename_i k hu
      obtain ⟨b, rfl, _, hw⟩ := DataW.trod_int hu h
      exact ⟨β, n, m, [.int k b], Mo.refl .., hro, rfl, rfl, by simp only [TyC, hu]; exact ⟨b, rfl, hw⟩⟩
    · rename_i hu
      obtain ⟨s, rfl, _⟩ := DataW.trod_string hu h
      exact ⟨β, n, m, [.string s], Mo.refl .., hro, rfl, rfl, by simp only [TyC, hu]; exact ⟨s, rfl⟩⟩
    · rename_i e hu
      simp only [Bool.and_eq_true, decide_eq_true_eq] at hpt
      have he : e ∈ L := by simpa using hpt.1
      have hz := hpt.2
      rcases DataW.trod_slice hu h with ⟨rfl, _⟩ | ⟨a, len, cap, elems, rest, k, hk, rfl, _, _, hlc, hcm, hel, hread, _⟩
      · -- nil
        obtain ⟨h1, h2⟩ := hro.new ⟨0, 0, 0, true, none⟩ (.cells (some true) e (P.cellsOf e) []) rfl ⟨rfl, rfl, rfl, fun _ => rfl, (fun h => by cases h)⟩
        refine ⟨_, _, _, [.slice (some ⟨n, 0, none⟩) 0 0], h1, h2, ?_, ?_, ?_⟩
        · simp [blwL, blw, Dm.has]
        · simp [renL, ren, renSlice, upd_self]
        · simp only [TyC, hu]
          exact ⟨n, 0, 0, true, [], rfl, Nat.le_refl _, by simp [maxLen], rfl, by simp [Tr.get_set], fun _ => rfl, (fun x hx => by cases hx)⟩
      · cases hk
        have hrows : ∀ i, i < len → ∃ row y, w.cells? 0 (a.add (i * P.cellsOf e)) (P.cellsOf e) = some row ∧ DataW.trod enc P w 0 (fun _ => true) true f e row = some y := by
          intro i hi
          have := hread i hi
          cases hc : w.cells? 0 (a.add (i * P.cellsOf e)) (P.cellsOf e) with
          | none => rw [hc] at this; simp [hel, hi] at this
          | some row =>
            rw [hc] at this
            simp only [Option.bind_some] at this
            exact ⟨row, elems[i]'(by omega), rfl, by rw [this]; simp [hel, hi]⟩
        by_cases h0 : len = 0
        · subst h0
          obtain ⟨h1, h2⟩ := hro.new ⟨0, 0, 0, true, some a⟩ (.cells (some false) e (P.cellsOf e) []) rfl ⟨rfl, rfl, rfl, fun _ => rfl, (fun h => by cases h)⟩
          refine ⟨_, _, _, [.slice (some ⟨n, 0, none⟩) 0 cap], h1, h2, ?_, ?_, ?_⟩
          · simp [blwL, blw, Dm.has]
          · simp [renL, ren, renSlice, upd_self, Addr.add]
          · simp only [TyC, hu]
            exact ⟨n, 0, cap, false, [], rfl, hlc, hcm, rfl, by simp [Tr.get_set], fun _ => rfl, (fun x hx => by cases hx)⟩
        · -- the rows
          let rowAt : Nat → List Value := fun i => (w.cells? 0 (a.add (i * P.cellsOf e)) (P.cellsOf e)).getD []
          have hrow : ∀ i, i < len → w.cells? 0 (a.add (i * P.cellsOf e)) (P.cellsOf e) = some (rowAt i) := fun i hi => by
            obtain ⟨row, y, h1, _⟩ := hrows i hi
            show _ = some ((w.cells? 0 (a.add (i * P.cellsOf e)) (P.cellsOf e)).getD [])
            rw [h1]; rfl
          obtain ⟨β1, n1, m1, es, a1, a2, a3, a4, a5⟩ := abs_list (f := f) ((List.range len).map fun i => (e, rowAt i)) (fun y hy => by
            obtain ⟨i, hi, rfl⟩ := List.mem_map.1 hy
            have hi := List.mem_range.1 hi
            obtain ⟨row, y, h1, h2⟩ := hrows i hi
            rw [hrow i hi] at h1
            cases h1
            exact ih e _ y he h2) β n m hro
          have hlen : es.length = len := by simpa using congrArg List.length a4
          have hget : ∀ i ei, es[i]? = some ei → i < len ∧ renL β1 ei = rowAt i := by
            intro i ei hi
            have hil : i < len := by rw [← hlen]; exact (List.getElem?_eq_some_iff.1 hi).1
            refine ⟨hil, ?_⟩
            have := congrArg (fun q : List (List Value) => q[i]?) a4
            simp [hi, hil] at this
            exact this
          have hsz : ∀ x ∈ es, x.length = P.cellsOf e := by
            intro x hx
            obtain ⟨i, hi⟩ := List.mem_iff_getElem?.1 hx
            obtain ⟨hil, hr⟩ := hget i x hi
            have := (World.cells?_some (hrow i hil)).2.1
            rw [← hr] at this
            simpa [renL_eq] using this
          have hcell : ∀ q r v, q < len → r < P.cellsOf e → (rowAt q)[r]? = some v → w.cell? ((a.add (q * P.cellsOf e)).add r) = some v := fun q r v hq hr hv =>
            ((World.cells?_some (hrow q hq)).2.2 r hr).trans hv
          have h00 : ∃ v, (rowAt 0)[0]? = some v := by
            have := (World.cells?_some (hrow 0 (by omega))).2.1
            exact ⟨(rowAt 0)[0]'(by omega), by simp⟩
          obtain ⟨v0, hv0⟩ := h00
          have hc0 := hcell 0 0 v0 (by omega) hz hv0
          simp only [Nat.zero_mul] at hc0
          have hadd0 : (a.add 0).add 0 = a := by simp [Addr.add]
          rw [hadd0] at hc0
          have hspot := World.cell?_spot hc0
          obtain ⟨blk, off, spot⟩ := a
          simp only at hspot
          subst hspot
          have hfl : ∀ (i : Nat) v, es.flatten[i]? = some v → w.cell? ⟨blk, i + off, none⟩ = some (ren β1 v) := by
            intro i v hv
            have hi : i = i / P.cellsOf e * P.cellsOf e + i % P.cellsOf e := by
              have := Nat.div_add_mod i (P.cellsOf e)
              rw [Nat.mul_comm] at this; omega
            have hr := Nat.mod_lt i hz
            rw [hi, flat_get hz hsz _ _ hr] at hv
            cases he2 : es[i / P.cellsOf e]? with
            | none => rw [he2] at hv; cases hv
            | some ei =>
              rw [he2] at hv
              simp only [Option.bind_some] at hv
              obtain ⟨h1, h2⟩ := hget _ _ he2
              have h3 : (rowAt (i / P.cellsOf e))[i % P.cellsOf e]? = some (ren β1 v) := by rw [← h2, renL_eq]; simp [hv]
              have := hcell _ _ _ h1 hr h3
              rw [addr_add, addr_add] at this
              have e4 : off + i / P.cellsOf e * P.cellsOf e + i % P.cellsOf e = i + off := by omega
              rw [e4] at this
              exact this
          have hbl : blwL (D0 n1) es.flatten = true := by
            rw [blwL_eq, List.all_eq_true]
            intro v hv
            obtain ⟨x, hx, hvx⟩ := List.mem_flatten.1 hv
            have := a3 x hx
            rw [blwL_eq, List.all_eq_true] at this
            exact this v hvx
          have hheap : ∃ c el fz, w.heap[blk]? = some (.cells c el fz) := by
            unfold World.cell? at hc0
            split at hc0
            · rename_i c el fz hh; exact ⟨c, el, fz, hh⟩
            · cases hc0
          obtain ⟨c, el, fz, hheap⟩ := hheap
          have hag : ∀ i, (D0 n1).has i = true → upd β1 n1 ⟨blk, off, 0, false, none⟩ i = β1 i := fun i hi => upd_ne _ _ (by have := has_D0.1 hi; omega)
          obtain ⟨h1, h2⟩ := a2.new ⟨blk, off, 0, false, none⟩ (.cells (some false) e (P.cellsOf e) es.flatten) rfl ⟨rfl, rfl, blwL_mono (fun i hi => has_D0.2 (by have := has_D0.1 hi; omega)) _ hbl, (fun h => by cases h), fun _ => ⟨c, el, fz, hheap, fun i v hv => by
            have := hfl i v hv
            rw [ren_agree hag v (blwL_get hbl hv)]
            unfold World.cell? at this
            rw [hheap] at this
            simpa using this⟩⟩
          refine ⟨_, _, _, [.slice (some ⟨n1, 0, none⟩) len cap], a1.trans h1, h2, ?_, ?_, ?_⟩
          · simp [blwL, blw, Dm.has]
          · simp [renL, ren, renSlice, upd_self]
          · simp only [TyC, hu]
            refine ⟨n1, len, cap, false, es, rfl, hlc, hcm, hlen, by simp [Tr.get_set], (fun h => by cases h), fun x hx => ⟨hsz x hx, ?_⟩⟩
            obtain ⟨i, hi⟩ := List.mem_iff_getElem?.1 hx
            have hil := (hget i x hi).1
            have := a5 i (e, rowAt i) x (by simp [hil]) hi
            exact TyC.more h1.same (fun i o ho => has_D0.1 (a2.rel.obj i o ho).1) f this
    · rename_i fs hu
      simp only [Bool.and_eq_true, decide_eq_true_eq] at hpt
      obtain ⟨hpf, hpo, hps⟩ := hpt
      obtain ⟨xs, k, hk, _, hlen, hxs, hfield⟩ := DataW.trod_struct hu h
      cases hk
      have hrd : ∀ (i : Nat) fd, fs.toList[i]? = some fd → ∃ y, DataW.trod enc P w 0 (fun _ => true) true f fd.type ((cs.drop fd.offset).take (P.cellsOf fd.type)) = some y := by
        intro i fd hi
        have := hfield i fd (by simpa using hi)
        have hil : i < fs.size := by have := (List.getElem?_eq_some_iff.1 hi).1; simpa using this
        exact ⟨xs[i]'(by omega), this.trans (by simp [hxs, hil])⟩
      obtain ⟨β1, n1, m1, es, a1, a2, a3, a4, a5⟩ := abs_list (f := f) (fs.toList.map fun fd => (fd.type, (cs.drop fd.offset).take (P.cellsOf fd.type))) (fun y hy => by
        obtain ⟨fd, hfd, rfl⟩ := List.mem_map.1 hy
        obtain ⟨i, hi⟩ := List.mem_iff_getElem?.1 hfd
        obtain ⟨y, hy⟩ := hrd i fd hi
        exact ih fd.type _ y (by simpa using List.all_eq_true.1 hpf fd hfd) hy) β n m hro
      -- the parts lie side by side
      have hcat : ∀ (l : List Field) (acc : Nat), offsB P acc l = true → acc + (l.map fun f => P.cellsOf f.type).sum = cs.length → (l.map fun fd => (cs.drop fd.offset).take (P.cellsOf fd.type)).flatten = cs.drop acc := by
        intro l
        induction l with
        | nil => intro acc _ hs; simp at hs; simp [hs]
        | cons fd l ihl =>
          intro acc ho hs
          simp only [offsB, Bool.and_eq_true, beq_iff_eq] at ho
          simp only [List.map_cons, List.sum_cons] at hs
          rw [List.map_cons, List.flatten_cons, ihl _ ho.2 (by omega), ho.1, ← List.drop_drop, List.take_append_drop]
      have hes : (es.map (renL β1)).flatten = cs := by
        rw [a4, List.map_map]
        have := hcat fs.toList 0 hpo (by rw [Nat.zero_add, ← hps, hlen])
        simpa [Function.comp_def] using this
      have hl : es.length = fs.toList.length := by simpa using congrArg List.length a4
      refine ⟨β1, n1, m1, es.flatten, a1, a2, ?_, ?_, ?_⟩
      · rw [blwL_eq, List.all_eq_true]
        intro v hv
        obtain ⟨x, hx, hvx⟩ := List.mem_flatten.1 hv
        have := a3 x hx
        rw [blwL_eq, List.all_eq_true] at this
        exact this v hvx
      · rw [← hes, renL_eq, List.map_flatten]
        congr 1
        apply List.map_congr_left
        intro x _
        rw [renL_eq]
      · simp only [TyC, hu]
        refine ⟨es, rfl, hl, fun i fd p hi hp => ⟨?_, ?_⟩⟩
        · have := congrArg (fun q : List (List Value) => q[i]?) a4
          simp only [List.getElem?_map, hp, hi, Option.map_some, Option.some.injEq] at this
          have h3 := congrArg List.length this
          simp only [renL_eq, List.length_map, List.length_take, List.length_drop] at h3
          rw [h3]
          have : fd.offset + P.cellsOf fd.type ≤ cs.length := by
            have hoff : ∀ (l : List Field) (acc : Nat), offsB P acc l = true → ∀ g ∈ l, g.offset + P.cellsOf g.type ≤ acc + (l.map fun f => P.cellsOf f.type).sum := by
              intro l
              induction l with
              | nil => intro _ _ g hg; cases hg
              | cons a l ihl =>
                intro acc ho g hg
                simp only [offsB, Bool.and_eq_true, beq_iff_eq] at ho
                simp only [List.map_cons, List.sum_cons]
                rcases List.mem_cons.1 hg with rfl | hg
                · rw [ho.1]; omega
                · have := ihl _ ho.2 g hg; omega
            have := hoff fs.toList 0 hpo fd (List.mem_of_getElem? hi)
            rw [hlen, hps]; omega
          omega
        · exact a5 i (fd.type, (cs.drop fd.offset).take (P.cellsOf fd.type)) p (by rw [List.getElem?_map, hi]; rfl) hp
    · cases hpt
end
end Go.Ab
