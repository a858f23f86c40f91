/- WFibOf: what parts of the program compute; helper of the claim. -/
import Derived.Test.YtiomjekkmjinbaaWC
set_option maxRecDepth 100000
namespace Go.Proofs.Ytiomjekkmjinbaa
open Go Go.Ab Spf
section
variable {m : Mem} {n : Nat} {N me : Int} {L : List Lk} {U : List Bool} {la ua : Option Addr} {lc uc : Nat}
theorem of_law (hL : Sl m n la lc (L.flatMap encL)) (hU : Sl m n ua uc (U.map Value.bool)) {Q : Value → Mem → Nat → Prop} (hq : ∀ m' n', Q (.bool true) m' n') :
    Wc Try.prog fLaw14FibOf [vi N, .slice la L.length lc, .slice ua U.length uc, vi me] m n Q := by
  refine Wc_of mixed (cfg := xcfg) (fuel := 400) ?_
  rw [xLaw14FibOf]
  refine condD (fun _ => awake_c ⟨_, rfl, Later.mk (hq _ _)⟩) fun h1 => condD (fun _ => awake_c ⟨_, rfl, Later.mk (hq _ _)⟩) fun h2 => ?_
  obtain ⟨m1, n1, pl, ow1, le1, _, run1⟩ := ownl_c rfl hL (by omega)
  have hL1 := hL.le le1
  have hU1 := hU.le le1
  obtain ⟨m2, n2, pu, ow2, le2, _, run2⟩ := ownb_c rfl hU1 (by omega)
  have hL2 := hL1.le le2
  have hU2 := hU1.le le2
  obtain ⟨m3, n3, a3, R, hR, ow3, ent3, le3, _, run3⟩ := of_c (N := N) (f := me) (ll := L.length) (ul := U.length) rfl rfl (ow1.sl.le le2) ow2.sl
  obtain ⟨m4, n4, a4, R', hR', ow4, ent4, le4, _, run4⟩ := rof_c (N := N) (f := me) (ll := L.length) (ul := U.length) rfl rfl (hL2.le le3) (hU2.le le3)
  refine run1 _ ⟨_, _, _, rfl, Later.mk (run2 _ ⟨_, _, _, rfl, Later.mk (run3 _ ⟨_, _, _, rfl, Later.mk (run4 _ ⟨_, _, _, rfl, Later.mk ?_⟩)⟩)⟩)⟩
  have hk := hR.uniq hR'
  have hlen : R.length ≤ 1000 := by
    have := hR
    unfold OfR at this
    split at this
    · rename_i hv
      obtain ⟨hg, _⟩ := valid_iff hv
      have h5 := this.len
      have h6 := hg.big
      have h7 : (mkG N L U).N = N.toNat := rfl
      simp only [List.length_map] at h5
      omega
    · have : R = [] := by simpa [-Bool.exists_bool] using this
      subst this; simp [-Bool.exists_bool]
  refine entries_c rfl rfl (ow3.sl.le le4) ow4.sl ((ent3.s hR.rows).le le4) (ent4.s hR'.rows) (by omega) ⟨_, rfl, Later.mk (condT (decide_eq_true hk) ?_)⟩
  have le24 := le3.trans le4
  refine samel_c rfl rfl ((ow1.sl.le le2).le le24) (hL2.le le24) (by omega) ⟨_, rfl, Later.mk (condT rfl ?_)⟩
  refine sameb_c rfl rfl (ow2.sl.le le24) (hU2.le le24) (by omega) ⟨_, rfl, Later.mk (condT (by simp [-Bool.exists_bool]) ?_)⟩
  exact awake_c ⟨_, rfl, Later.mk (hq _ _)⟩
end
end Go.Proofs.Ytiomjekkmjinbaa

namespace Go.Proofs.Ytiomjekkmjinbaa
open Go Go.Ab Spf
set_option maxRecDepth 1000000 in
theorem fibOf_main (m : Mem) (n : Nat) (ars : List Value) (hl : ars.length = ([3, 22, 23, 3] : List TypeId).length) (ht : ∀ (j : Nat) t a, ([3, 22, 23, 3] : List TypeId)[j]? = some t → ars[j]? = some a → TyV Try.prog m t a)
    (_ : ∀ i o, m.get i = some o → own o = false) (hfresh : ∀ i, n ≤ i → m.get i = none) : Wc Try.prog fLaw14FibOf ars m n fun v _ _ => v = .bool true := by
  match ars, hl with
  | [x, a, b, c], _ =>
    obtain ⟨N, rfl, _⟩ := TyV.int undInt (ht 0 3 x (by simp [-Bool.exists_bool]) (by simp [-Bool.exists_bool]))
    obtain ⟨la, L, lc, rfl, h1⟩ := larg hfresh (ht 1 22 a (by simp [-Bool.exists_bool]) (by simp [-Bool.exists_bool]))
    obtain ⟨ua, U, uc, rfl, h2⟩ := barg hfresh (ht 2 23 b (by simp [-Bool.exists_bool]) (by simp [-Bool.exists_bool]))
    obtain ⟨c, rfl, _⟩ := TyV.int undInt (ht 3 3 c (by simp [-Bool.exists_bool]) (by simp [-Bool.exists_bool]))
    exact of_law h1 h2 fun _ _ => rfl
end Go.Proofs.Ytiomjekkmjinbaa
