/- Q12: what parts of the program compute; helper of the claim. -/
import Derived.Test.YtpiiddoccloghaaP12
import Derived.Test.YtpiiddoccloghaaAb35
namespace Go.Proofs.Ytpiiddoccloghaa
open Go Go.Ab

def D.run (d : D) (t : Int) : List Bool → D
  | [] => d
  | b :: l => (d.next t b).run (t + 1) l
def D.ups (d : D) (t : Int) : List Bool → List Bool
  | [] => []
  | b :: l => ((d.next t b).mode == 1) :: (d.next t b).ups (t + 1) l
/-- What every watch keeps. -/
structure D.ok (d : D) : Prop where
  mult : 1 ≤ d.mult ∧ d.mult ≤ 1000
  mode : d.mode = 0 ∨ d.mode = 1
theorem D.next_ok {d : D} (h : d.ok) (t : Int) (b : Bool) : (d.next t b).ok := by
  refine ⟨h.mult, ?_⟩
  simp only [D.next]
  split
  · rcases h.mode with h | h <;> rw [h] <;> decide
  · exact h.mode
theorem D.next_up {d : D} (h : d.ok) (t : Int) (b : Bool) : d.chg t b = (((d.next t b).mode == 1) != (d.mode == 1)) := by
  simp only [D.next]
  cases d.chg t b <;> rcases h.mode with h | h <;> simp [-Bool.exists_bool, h] <;> decide
theorem bools : elemOk Try.prog 27 4 1 = true := by kernel_rfl

theorem ticks_loop {w s : Nat} {ha : Option Addr} {hc : Nat} {from' : Int} {Q : Value → Mem → Nat → Prop} {n0 : Nat} (bs : List Bool) (hhb : ∀ b o s, ha = some ⟨b, o, s⟩ → bs ≠ [] → b < n0) (hf0 : 0 ≤ from') (hlen : bs.length ≤ 1000) (hft : from' + bs.length ≤ 1099511627776) (m0 : Mem) (d0 : D)
    (hq : ∀ m' n' a c, Wat m' w s (d0.run from' bs) → OwnA m' 4 1 a bs.length c ((d0.ups from' bs).map .bool) → (∀ b o s, a = some ⟨b, o, s⟩ → n0 ≤ b) → Fr m0 n0 m' n' (· = s) → Q (.tuple ⟨[.slice a bs.length c, .bool true]⟩) m' n') :
    ∀ (l pre : List Bool) (us : List Bool) (d : D) (m : Mem) (n : Nat) (a : Option Addr) (c : Nat), bs = pre ++ l → Wat m w s d → d.ok → (∀ x, d.last = some x → x < from' + pre.length) → View m 4 ha hc (bs.map .bool) → us.length = pre.length →
      OwnA m 4 1 a pre.length c (us.map .bool) → (∀ b o s, a = some ⟨b, o, s⟩ → n0 ≤ b) → Fr m0 n0 m n (· = s) →
      d0.run from' bs = d.run (from' + pre.length) l → d0.ups from' bs = us ++ d.ups (from' + pre.length) l →
      W Try.prog { fn := 17, nt := 49, slots := [(0, pp w), (1, .int .i64 from'), (2, .slice ha bs.length hc), (8, .slice a pre.length c), (9, .int .i64 pre.length)], todo := pt Try.prog 17 [1, 1, 0, 1, 0, 0] } m n Q := by
  intro l
  induction l with
  | nil =>
    intro pre us d m n a c hbs hw hok hlast hv hus hown hab hfr hrun hups
    refine W_of mixed (cfg := d12xcfg) (fuel := 400) ?_
    rw [d12x17k0]
    simp only [List.append_nil] at hbs
    subst hbs
    simp [-Bool.exists_bool]
    refine hq m n a c ?_ ?_ hab hfr
    · rw [hrun]; exact hw
    · rw [hups]; simpa [-Bool.exists_bool, D.ups] using hown
  | cons b l ih =>
    intro pre us d m n a c hbs hw hok hlast hv hus hown hab hfr hrun hups
    refine W.fresh fun hfresh => W_of mixed (cfg := d12xcfg) (fuel := 400) ?_
    rw [d12x17k0]
    have hlt : pre.length < bs.length := by rw [hbs]; simp [-Bool.exists_bool]
    have hj : (bs.map Value.bool)[pre.length]? = some (.bool b) := by rw [hbs]; simp [-Bool.exists_bool]
    obtain ⟨hb, ho, hs, rfl, h1, h2, h3⟩ := hv.at hj
    have hwrap : IntKind.i64.wrap (from' + pre.length) = from' + pre.length := wrap_id (by omega) (by omega)
    simp [-Bool.exists_bool, hlt]
    refine up_c hw ⟨_, rfl, Later.mk ?_⟩
    simp [-Bool.exists_bool, h1, h3, hwrap, hlt]
    have herr : d.err (from' + pre.length) = 0 := by
      unfold D.err
      rw [if_neg (by omega), if_neg (by omega)]
      split
      · rename_i x hx
        have := hlast x hx
        rw [if_neg (by omega)]
      · rfl
    refine ⟨fun hh => h2 hh, tick_c hw hok.mode fun m1 n1 hw1 hfr1 => ⟨_, _, rfl, Later.mk ?_⟩⟩
    simp only [D.tick, D.out, herr, if_true] at hw1 ⊢
    simp [-Bool.exists_bool]
    refine up_c hw1 ⟨_, rfl, Later.mk ?_⟩
    have hup := D.next_up hok (from' + pre.length) b
    have hout : d.out (from' + pre.length) b = d.chg (from' + pre.length) b := by simp [-Bool.exists_bool, D.out, herr]
    rw [hout, hup]
    have hbb : ∀ x y : Bool, (!((x != y) == !(x == y))) = false := by decide
    rw [hbb, cond_false]
    refine Wc.fresh (by kernel_rfl) fun hf1 => ?_
    refine up_c hw1 ⟨_, rfl, Later.mk ?_⟩
    have hw1' := hw1
    obtain ⟨g1, p1, g2, g3⟩ := hw1
    have hlt1 : ∀ q o, m.get q = some o → q < n := fun q o hq => lt_of_get hfresh hq
    -- the blocks of the lists lie apart from the watch's
    have hsep : ∀ {q ro sz full}, m.get q = some (.cells ro 4 sz full) → m1.get q = m.get q := fun {q ro sz full} hq0 => by
      have hqs : q ≠ s := by
        rintro rfl
        obtain ⟨_, _, hs', _⟩ := hw
        rw [hq0] at hs'
        simp [-Bool.exists_bool] at hs'
      exact hfr1.2 q (hlt1 q _ hq0) hqs
    have hn1 : n ≤ n1 := hfr1.1
    have hn0 : n0 ≤ n := hfr.1
    have hown1 : OwnA (m1.set n1 (.cells none 4 1 [.bool ((d.next (from' + pre.length) b).mode == 1)])) 4 1 a pre.length c (us.map .bool) := by
      rcases hown with h | ⟨q, hq1, hq2, hq3, hq4, hq5⟩
      · exact .inl h
      · have : n1 ≠ q := by have := hlt1 q _ hq5; omega
        exact .inr ⟨q, hq1, hq2, hq3, hq4, by simp [-Bool.exists_bool, Tr.get_set, this, hsep hq5, hq5]⟩
    have hp3 : pre.length + 1 ≤ 2 ^ 30 := by omega
    obtain ⟨m2, happ, hown2, hget2, hsame2⟩ := append_own (P := Try.prog) (n := n1 + 1) (k := 1) (kc := 1) (x := some ⟨n1, 0, none⟩) (xs := [.bool ((d.next (from' + pre.length) b).mode == 1)]) bools hown1
      (one_cell (T := 4) (sz := 1) (by simp [-Bool.exists_bool, Tr.get_set])) (by omega) (by simp [-Bool.exists_bool, cellOk]) (by simp [-Bool.exists_bool]) hp3
    refine ⟨_, _, _, _, _, happ, ?_⟩
    have hq4 : ∀ q, a = some ⟨q, 0, some 0⟩ → n0 ≤ q ∧ ∃ cs, m1.get q = some (.cells none 4 1 cs) := by
      intro q hq0
      refine ⟨hab _ _ _ hq0, ?_⟩
      rcases hown with ⟨_, h, _⟩ | ⟨q', hq1, _, _, _, hq5⟩
      · rw [h] at hq0; cases hq0
      · rw [hq1] at hq0; cases hq0
        exact ⟨_, (hsep hq5).trans hq5⟩
    have hkeep : ∀ i, i < n1 → (∀ q, a = some ⟨q, 0, some 0⟩ → i ≠ q) → m2.get i = m1.get i := fun i hi hne => by
      rw [hsame2 i (by omega) hne]
      have : n1 ≠ i := by omega
      simp [-Bool.exists_bool, Tr.get_set, this]
    have hw2 : Wat m2 w s (d.next (from' + pre.length) b) := hw1'.same fun i T sz cs hi hT => hkeep i (lt_of_get hf1 hi) fun q hq0 => by
      rintro rfl
      obtain ⟨_, cs', h⟩ := hq4 i hq0
      rw [h] at hi
      rcases hT with rfl | rfl | rfl <;> simp [-Bool.exists_bool] at hi
    have hidx : IntKind.i64.wrap ((pre.length : Int) + 1) = ((pre ++ [b]).length : Int) := by
      rw [wrap_id (by omega) (by omega)]; simp [-Bool.exists_bool]
    have hv2 : View m2 4 (some ⟨hb, ho, hs⟩) hc (bs.map .bool) := hv.same fun q o hq0 ⟨ro, sz, full, ho⟩ ⟨o', s', ha'⟩ => by
      subst ho
      rw [hkeep q (by have := hlt1 q _ hq0; omega) fun q' hq' => by have := (hq4 q' hq').1; have := hhb _ _ _ ha' (by rw [hbs]; simp [-Bool.exists_bool]); omega, hsep hq0]
    have := ih (pre ++ [b]) (us ++ [(d.next (from' + pre.length) b).mode == 1]) (d.next (from' + pre.length) b) m2 (n1 + 1 + 1) (some ⟨n1 + 1, 0, some 0⟩) (pre.length + 1)
      (by simp [-Bool.exists_bool, hbs]) hw2 (D.next_ok hok _ _) (by intro x hx; simp only [D.next, Option.some.injEq] at hx; subst hx; simp; omega) hv2 (by simp [-Bool.exists_bool, hus]) (by simpa [-Bool.exists_bool] using hown2) (by intro q _ _ hq0; cases hq0; omega)
      ⟨by omega, fun i hi hx => by
        rw [hkeep i (by omega) fun q hq0 => by have := (hq4 q hq0).1; omega, hfr1.2 i (by omega) hx, hfr.2 i hi hx]⟩
      (by rw [hrun]; simp [-Bool.exists_bool, D.run, Int.add_assoc]) (by rw [hups]; simp [-Bool.exists_bool, D.ups, Int.add_assoc])
    rw [hidx]
    simpa [-Bool.exists_bool] using this

theorem ticks_c {m : Mem} {n w s : Nat} {d : D} {ha : Option Addr} {hc : Nat} {from' : Int} {bs : List Bool} {Q : Value → Mem → Nat → Prop} (hw : Wat m w s d) (hok : d.ok) (hlast : ∀ x, d.last = some x → x < from') (hf0 : 0 ≤ from')
    (hv : View m 4 ha hc (bs.map .bool)) (hlen : bs.length ≤ 1000) (hft : from' + bs.length ≤ 1099511627776)
    (hq : ∀ m' n' a c, Wat m' w s (d.run from' bs) → OwnA m' 4 1 a bs.length c ((d.ups from' bs).map .bool) → (∀ b o s, a = some ⟨b, o, s⟩ → n ≤ b) → Fr m n m' n' (· = s) → Q (.tuple ⟨[.slice a bs.length c, .bool true]⟩) m' n') :
    Wc Try.prog 17 [pp w, .int .i64 from', .slice ha bs.length hc] m n Q := by
  refine Wc.fresh (by kernel_rfl) fun hf => ?_
  refine Wc_of mixed (cfg := d12xcfg) (fuel := 400) ?_
  rw [d12x17]
  have hhb : ∀ b o s', ha = some ⟨b, o, s'⟩ → bs ≠ [] → b < n := by
    intro b o s' hb hne
    rcases hv with h | ⟨b', o', s'', ro, sz, full, h1, h2, _⟩
    · exact (hne (by simpa [-Bool.exists_bool] using h)).elim
    · rw [h1] at hb; cases hb
      exact lt_of_get hf h2
  have := ticks_loop (w := w) (s := s) (ha := ha) (hc := hc) (Q := Q) (n0 := n) (bs := bs) hhb hf0 hlen hft m d hq bs [] [] d m n none 0 rfl hw hok (by simpa [-Bool.exists_bool] using hlast) hv rfl (.inl ⟨rfl, rfl, rfl, rfl⟩) (by intro _ _ _ h; cases h) Fr.refl (by simp [-Bool.exists_bool]) (by simp [-Bool.exists_bool])
  simpa [-Bool.exists_bool] using this
end Go.Proofs.Ytpiiddoccloghaa
