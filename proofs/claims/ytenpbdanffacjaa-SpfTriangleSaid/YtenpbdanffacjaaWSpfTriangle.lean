/- WSpfTriangle: what parts of the program compute; helper of the claim. -/
import Derived.Test.YtenpbdanffacjaaWBase
namespace Go.Proofs.Ytenpbdanffacjaa
open Go Go.Ab Spf
section
variable {m m' : Mem} {n n' : Nat} {N : Int} {L : List Lk} {U : List Bool} {la ua : Option Addr} {ll lc ul uc : Nat}
theorem ldx {D : List Int} {a : Option Addr} {c : Nat} (h : Sl m n a c (D.map vi)) {x : Int} (h0 : 0 ≤ x) (h1 : x < D.length) {K : Int → Prop} (hk : K (gd D x.toNat)) :
    elimA a False fun b o s => (0 ≤ x ∧ x < (D.length : Int) ∧ liveAt m b = true ∧ (s ≠ none → 0 < c)) ∧ ∃ y : Int, rd m b (offOf o s + x.toNat * 1) = some (vi y) ∧ K y := by
  have hi : x.toNat < D.length := by omega
  have := h.ldi hi (K := K) (by rw [gd_get hi]; exact hk)
  rw [show ((x.toNat : Nat) : Int) = x by omega] at this
  exact this
theorem lvalid_valid (h : lvalid N L U.length = true) {E : List Int} (hE : ∀ x ∈ E, 0 ≤ x ∧ x < N) : validP N L U.length E = true := by
  simp only [lvalid, Bool.and_eq_true, decide_eq_true_eq] at h
  obtain ⟨h1, ⟨h2, h3⟩, h4, h5⟩ := h
  have h6 : E.all (inN N) = true := by
    rw [List.all_eq_true]
    intro x hx
    simp [-Bool.exists_bool, inN, hE x hx]
  simp only [validP, h5, h6, decide_eq_true h2, decide_eq_true h3, decide_eq_true h4, Bool.true_and, Bool.and_true]
  exact decide_eq_true (by omega)
theorem lvalid_ok (h : lvalid N L U.length = true) : (mkG N L U).Ok ∧ L.length ≤ 60 ∧ 1 ≤ N ∧ N ≤ 32 ∧ U.length = L.length ∧ (mkG N L U).N = N.toNat ∧ (mkG N L U).X = L.zip U := by
  have hv := (valid_iff (lvalid_valid h (E := []) (by simp [-Bool.exists_bool]))).1
  simp only [lvalid, Bool.and_eq_true, decide_eq_true_eq] at h
  obtain ⟨h1, ⟨h2, h3⟩, h4, h5⟩ := h
  exact ⟨hv, h1, h2, h3, h4, rfl, rfl⟩
/-- What a call of dist hands back, of a network that is valid. -/
theorem NS.vdist {x : Nat} (h : NS m n x N L U la ua ll lc ul uc) (hv : lvalid N L U.length = true) {f : Int} (h0 : 0 ≤ f) (h1 : f < N) :
    ∃ m' n' a D, IsDist (mkG N L U) f.toNat D ∧ (D.length : Int) = N ∧ Ow m' n n' tInt 1 a D.length D.length (D.map vi) ∧ Le m n m' n' ∧ (Fs m n → Fs m' n') ∧ Exact Try.prog fLaw10Netdist [netV N la ll lc ua ul uc, vi f] m n (.slice a D.length D.length) m' n' := by
  obtain ⟨m', n', a, D, h2, h3, h4, h5, run⟩ := netdist_c (N := N) (f := f) h.hl h.hu h.sl h.su
  have hd : IsDist (mkG N L U) f.toNat D := by
    unfold DistR at h2
    rw [if_pos (lvalid_valid hv (by simp; omega))] at h2
    exact h2
  have := hd.len
  have := (lvalid_ok hv).2.2.2.2.2.1
  exact ⟨m', n', a, D, hd, by omega, h3, h4, h5, run⟩
theorem NS.vnext {x : Nat} (h : NS m n x N L U la ua ll lc ul uc) (hv : lvalid N L U.length = true) {f t : Int} (h0 : 0 ≤ f) (h1 : f < N) (h2 : 0 ≤ t) (h3 : t < N) :
    ∃ m' n' a d, IsDist (mkG N L U) t.toNat d ∧ Ow m' n n' tInt 1 a (nextL (mkG N L U) d f.toNat).length (nextL (mkG N L U) d f.toNat).length ((nextL (mkG N L U) d f.toNat).map vi) ∧ Le m n m' n' ∧ (Fs m n → Fs m' n') ∧
      Exact Try.prog fLaw10Netnext [netV N la ll lc ua ul uc, vi f, vi t] m n (.slice a (nextL (mkG N L U) d f.toNat).length (nextL (mkG N L U) d f.toNat).length) m' n' := by
  obtain ⟨m', n', a, D, h4, h5, h6, h7, run⟩ := netnext_c (N := N) (f := f) (t := t) h.hl h.hu h.sl h.su
  unfold NextR at h4
  rw [if_pos (lvalid_valid hv (by simp; omega))] at h4
  obtain ⟨d, hd, rfl⟩ := h4
  exact ⟨m', n', a, d, hd, h5, h6, h7, run⟩
theorem NS.vpaths {x : Nat} (h : NS m n x N L U la ua ll lc ul uc) (hv : lvalid N L U.length = true) {f t : Int} (h0 : 0 ≤ f) (h1 : f < N) (h2 : 0 ≤ t) (h3 : t < N) :
    ∃ m' n' d, IsDist (mkG N L U) t.toNat d ∧ Le m n m' n' ∧ (Fs m n → Fs m' n') ∧ Exact Try.prog fLaw10Netpaths [netV N la ll lc ua ul uc, vi f, vi t] m n (vi (pathsN (mkG N L U) d t.toNat f.toNat)) m' n' := by
  obtain ⟨m', n', x, h4, h6, h7, run⟩ := netpaths_c (N := N) (f := f) (t := t) h.hl h.hu h.sl h.su
  unfold PathsR at h4
  rw [if_pos (lvalid_valid hv (by simp; omega))] at h4
  obtain ⟨d, hd, rfl⟩ := h4
  exact ⟨m', n', d, hd, h6, h7, run⟩
theorem NS.vpath {x : Nat} (h : NS m n x N L U la ua ll lc ul uc) (hv : lvalid N L U.length = true) {f t : Int} (h0 : 0 ≤ f) (h1 : f < N) (h2 : 0 ≤ t) (h3 : t < N) :
    ∃ m' n' a d l, IsDist (mkG N L U) f.toNat d ∧ Back (mkG N L U) d t.toNat l ∧ Ow m' n n' tInt 1 a l.reverse.length l.reverse.length (l.reverse.map vi) ∧ Le m n m' n' ∧ (Fs m n → Fs m' n') ∧ Exact Try.prog fLaw10Netpath [netV N la ll lc ua ul uc, vi f, vi t] m n (.slice a l.reverse.length l.reverse.length) m' n' := by
  obtain ⟨m', n', a, D, h4, h5, h6, h7, run⟩ := netpath_c (N := N) (f := f) (t := t) h.hl h.hu h.sl h.su
  unfold PathR at h4
  rw [if_pos (lvalid_valid hv (by simp; omega))] at h4
  obtain ⟨d, l, hd, hb, rfl⟩ := h4
  exact ⟨m', n', a, d, l, hd, hb, h5, h6, h7, run⟩
theorem NS.vparents {x : Nat} (h : NS m n x N L U la ua ll lc ul uc) (hv : lvalid N L U.length = true) {f : Int} (h0 : 0 ≤ f) (h1 : f < N) :
    ∃ m' n' a d, IsDist (mkG N L U) f.toNat d ∧ Ow m' n n' tInt 1 a (parentsL (mkG N L U) d).length (parentsL (mkG N L U) d).length ((parentsL (mkG N L U) d).map vi) ∧ Le m n m' n' ∧ (Fs m n → Fs m' n') ∧
      Exact Try.prog fLaw10Netparents [netV N la ll lc ua ul uc, vi f] m n (.slice a (parentsL (mkG N L U) d).length (parentsL (mkG N L U) d).length) m' n' := by
  obtain ⟨m', n', a, D, h4, h5, h6, h7, run⟩ := netparents_c (N := N) (f := f) h.hl h.hu h.sl h.su
  unfold ParR at h4
  rw [if_pos (lvalid_valid hv (by simp; omega))] at h4
  obtain ⟨d, hd, rfl⟩ := h4
  exact ⟨m', n', a, d, hd, h5, h6, h7, run⟩
/-- The network that came in, in its own block. -/
theorem ns_new (hL : Sl m n la lc (L.flatMap encL)) (hU : Sl m n ua uc (U.map Value.bool)) : NS (m.set n (.cells none tLaw10Net 3 [vi N, .slice la L.length lc, .slice ua U.length uc])) (n + 1) n N L U la ua L.length lc U.length uc :=
  ⟨by simp [-Bool.exists_bool, Tr.get_set], by omega, hL.le Le.new, hU.le Le.new, rfl, rfl⟩

theorem triangle_law {a b c : Int} (hL : Sl m n la lc (L.flatMap encL)) (hU : Sl m n ua uc (U.map Value.bool)) {Q : Value → Mem → Nat → Prop} (hq : ∀ m' n', Q (.bool true) m' n') :
    Wc Try.prog fLaw10SpfTriangle [netV N la L.length lc ua U.length uc, vi a, vi b, vi c] m n Q := by
  refine Wc_of mixed (cfg := xcfg) (fuel := 400) ?_
  rw [xLaw10SpfTriangle]
  refine memLet.mk fun m0 e => ?_
  have ns0 : NS m0 (n + 1) n N L U la ua L.length lc U.length uc := by rw [e]; exact ns_new hL hU
  clear e
  refine known_c ⟨_, rfl, Later.mk ⟨_, _, _, _, _, _, _, rds_of ns0.get, lvalid_c ns0.hl ns0.sl ⟨_, rfl, Later.mk ?_⟩⟩⟩
  refine condB (fun _ => hq _ _) fun hv => ?_
  have hv : lvalid N L U.length = true := by simpa [-Bool.exists_bool] using hv
  obtain ⟨hg, _, hN1, hN2, _, _, _⟩ := lvalid_ok hv
  have ga := ns0.get
  have ba := pickM_bnd (x := a) (n := N) (by omega)
  have bb := pickM_bnd (x := b) (n := N) (by omega)
  have bc := pickM_bnd (x := c) (n := N) (by omega)
  refine ⟨isC_of ga, _, rd_of ga rfl, _, _, _, pick_c (by omega) (by omega) ⟨rfl, rfl, rfl⟩, Later.mk ⟨isC_of ga, _, rd_of ga rfl, _, _, _, pick_c (by omega) (by omega) ⟨rfl, rfl, rfl⟩, Later.mk ⟨isC_of ga, _, rd_of ga rfl, _, _, _, pick_c (by omega) (by omega) ⟨rfl, rfl, rfl⟩, Later.mk ?_⟩⟩⟩
  refine ⟨⟨_, rd_of ga rfl, rfl⟩, ⟨_, rd_of ga rfl, rfl⟩, ⟨isC_of ga, rfl⟩, ⟨isC_of ga, rfl⟩, ⟨_, rd_of ga rfl, rfl⟩, ⟨isC_of ga, rfl⟩, Nat.le_refl _, Nat.le_refl _, Nat.le_refl _, ?_⟩
  generalize pickM a N = a' at *
  generalize pickM b N = b' at *
  generalize pickM c N = c' at *
  have ns1 : NS m0 (n + 1 + 15 + 8) n N L U la ua L.length lc U.length uc := ns0.le (Le.refl.up (by omega))
  obtain ⟨m1, n1, pa, d, hd, hdl, ow1, le1, _, run1⟩ := ns1.vdist hv ba.1 ba.2
  have ns2 := ns1.le le1
  obtain ⟨m2, n2, pb, e, he, hel, ow2, le2, _, run2⟩ := ns2.vdist hv bb.1 bb.2
  have ns3 := ns2.le le2
  have g1 := ns2.get
  have g2 := ns3.get
  have l1 := le1.le
  have l2 := le2.le
  refine ⟨_, _, _, _, _, _, _, rds_of ga, _, _, _, _, _, run1 _ ⟨rfl, rfl, rfl⟩, Later.mk ⟨_, _, _, _, _, _, _, rds_of g1, _, _, _, _, _, run2 _ ⟨rfl, rfl, rfl⟩, Later.mk ⟨⟨_, _, _, _, _, _, _, rds_of ga, rfl⟩, by omega, by omega, isC_of g2, _, rd_of g2 rfl, ?_⟩⟩⟩
  have sd := (ow1.le le2).sl
  have se := ow2.sl
  refine condNF hdl ⟨isC_of g2, _, rd_of g2 rfl, condNF hel ?_⟩
  refine ldx sd bb.1 (by omega) (ldx se ba.1 (by omega) (condNF (hd.sym hg he) ?_))
  refine ldx sd bb.1 (by omega) (condD (fun h1 => ?_) fun _ => hq _ _)
  refine ldx se bc.1 (by omega) (condD (fun h2 => ?_) fun _ => hq _ _)
  have ht := hd.tri hg he h1 h2
  refine ldx sd bc.1 (by omega) (condDF (by omega) (ldx sd bc.1 (by omega) (ldx sd bb.1 (by omega) (ldx se bc.1 (by omega) ?_))))
  have v1 := hd.val b'.toNat
  have v2 := he.val c'.toNat
  rw [wrap_id (by omega) (by omega)]
  exact condDF (by omega) (hq _ _)

/-- What came in. -/
theorem undInt : Try.prog.underlying tInt = some (.int .i64) := by kernel_rfl
theorem undBool : Try.prog.underlying tBool = some .bool := by kernel_rfl
theorem undLbool : Try.prog.underlying tLbool = some (.slice tBool) := by kernel_rfl
theorem undLlink : Try.prog.underlying tLapiLink = some (.slice tApiLink) := by kernel_rfl
theorem fldLink : fieldTys Try.prog tApiLink = some [tInt, tInt, tInt] := by kernel_rfl
theorem fldNet : fieldTys Try.prog tLaw10Net = some [tInt, tLapiLink, tLbool] := by kernel_rfl
theorem link_of {m : Mem} {f : Nat} {cs : List Value} (h : TyC Try.prog m f tApiLink cs) : ∃ l : Lk, cs = encL l := by
  obtain ⟨f, parts, rfl, hlen, hp⟩ := TyC.fields fldLink h
  match parts, hlen with
  | [p0, p1, p2], _ =>
    obtain ⟨a, rfl, _⟩ := TyC.int undInt (hp 0 tInt p0 (by simp [-Bool.exists_bool]) (by simp [-Bool.exists_bool]))
    obtain ⟨b, rfl, _⟩ := TyC.int undInt (hp 1 tInt p1 (by simp [-Bool.exists_bool]) (by simp [-Bool.exists_bool]))
    obtain ⟨c, rfl, _⟩ := TyC.int undInt (hp 2 tInt p2 (by simp [-Bool.exists_bool]) (by simp [-Bool.exists_bool]))
    exact ⟨⟨a, b, c⟩, rfl⟩
theorem links_of {m : Mem} {n : Nat} (hf : ∀ i, n ≤ i → m.get i = none) {f : Nat} {cs : List Value} (h : TyC Try.prog m f tLapiLink cs) : ∃ la L lc, cs = [.slice la (L : List Lk).length lc] ∧ Sl m n la lc (L.flatMap encL) ∧ L.length ≤ 9223372036854775807 := by
  obtain ⟨id, len, cap, nl, es, f, rfl, h1, h2, h3, h4, h5, h6⟩ := TyC.slice undLlink h
  obtain ⟨L, e1, e2⟩ := rows_enc (enc := encL) (es := es) fun x hx => link_of (h6 x hx).2
  rw [e1] at h4
  obtain rfl : len = L.length := by omega
  exact ⟨_, L, cap, rfl, Sl.in_ h4 (lt_of_get hf h4) fun e => by rw [← e1, h5 e]; rfl, by unfold maxLen at h2; omega⟩
theorem bools_of {m : Mem} {n : Nat} (hf : ∀ i, n ≤ i → m.get i = none) {f : Nat} {cs : List Value} (h : TyC Try.prog m f tLbool cs) : ∃ ua U uc, cs = [.slice ua (U : List Bool).length uc] ∧ Sl m n ua uc (U.map Value.bool) ∧ U.length ≤ 9223372036854775807 := by
  obtain ⟨id, len, cap, nl, es, f, rfl, h1, h2, h3, h4, h5, h6⟩ := TyC.slice undLbool h
  obtain ⟨U, e1, e2⟩ := rows_one (f := Value.bool) (es := es) fun x hx => TyC.bool undBool (h6 x hx).2
  rw [e1] at h4
  obtain rfl : len = U.length := by omega
  exact ⟨_, U, cap, rfl, Sl.in_ h4 (lt_of_get hf h4) fun e => by rw [← e1, h5 e]; rfl, by unfold maxLen at h2; omega⟩
theorem net_of {m : Mem} {n : Nat} (hf : ∀ i, n ≤ i → m.get i = none) {v : Value} (h : TyV Try.prog m tLaw10Net v) : ∃ N la L lc ua U uc, v = netV N la (L : List Lk).length lc ua (U : List Bool).length uc ∧ Sl m n la lc (L.flatMap encL) ∧ Sl m n ua uc (U.map Value.bool) := by
  obtain ⟨f, cs, rfl, hc⟩ := TyV.st fldNet h
  obtain ⟨f, parts, rfl, hlen, hp⟩ := TyC.fields fldNet hc
  match parts, hlen with
  | [p0, p1, p2], _ =>
    obtain ⟨N, rfl, _⟩ := TyC.int undInt (hp 0 tInt p0 (by simp [-Bool.exists_bool]) (by simp [-Bool.exists_bool]))
    obtain ⟨la, L, lc, rfl, h1, _⟩ := links_of hf (hp 1 tLapiLink p1 (by simp [-Bool.exists_bool]) (by simp [-Bool.exists_bool]))
    obtain ⟨ua, U, uc, rfl, h2, _⟩ := bools_of hf (hp 2 tLbool p2 (by simp [-Bool.exists_bool]) (by simp [-Bool.exists_bool]))
    exact ⟨N, la, L, lc, ua, U, uc, rfl, h1, h2⟩
end
end Go.Proofs.Ytenpbdanffacjaa

namespace Go.Proofs.Ytenpbdanffacjaa
open Go Go.Ab Spf
set_option maxRecDepth 1000000 in
theorem spfTriangle_main (m : Mem) (n : Nat) (ars : List Value) (hl : ars.length = ([38, 3, 3, 3] : List TypeId).length) (ht : ∀ (j : Nat) t a, ([38, 3, 3, 3] : List TypeId)[j]? = some t → ars[j]? = some a → TyV Try.prog m t a)
    (_ : ∀ i o, m.get i = some o → own o = false) (hfresh : ∀ i, n ≤ i → m.get i = none) : Wc Try.prog fLaw10SpfTriangle ars m n fun v _ _ => v = .bool true := by
  match ars, hl with
  | [x, a, b, c], _ =>
    obtain ⟨N, la, L, lc, ua, U, uc, rfl, h1, h2⟩ := net_of hfresh (ht 0 38 x (by simp [-Bool.exists_bool]) (by simp [-Bool.exists_bool]))
    obtain ⟨a, rfl, _⟩ := TyV.int undInt (ht 1 3 a (by simp [-Bool.exists_bool]) (by simp [-Bool.exists_bool]))
    obtain ⟨b, rfl, _⟩ := TyV.int undInt (ht 2 3 b (by simp [-Bool.exists_bool]) (by simp [-Bool.exists_bool]))
    obtain ⟨c, rfl, _⟩ := TyV.int undInt (ht 3 3 c (by simp [-Bool.exists_bool]) (by simp [-Bool.exists_bool]))
    exact triangle_law h1 h2 fun _ _ => rfl
end Go.Proofs.Ytenpbdanffacjaa
