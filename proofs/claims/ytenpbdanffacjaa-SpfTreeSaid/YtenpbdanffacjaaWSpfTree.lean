/- WSpfTree: what parts of the program compute; helper of the claim. -/
import Derived.Test.YtenpbdanffacjaaWBase
namespace Go.Proofs.Ytenpbdanffacjaa
open Go Go.Ab Spf
section
variable {m m' : Mem} {n n' : Nat} {N : Int} {L : List Lk} {U : List Bool} {la ua : Option Addr} {ll lc ul uc : Nat}
theorem ldx {D : List Int} {a : Option Addr} {c : Nat} (h : Sl m n a c (D.map vi)) {x : Int} (h0 : 0 ≤ x) (h1 : x < D.length) {K : Int → Prop} (hk : K (gd D x.toNat)) :
    elimA a False fun b o s => (0 ≤ x ∧ x < (D.length : Int) ∧ liveAt m b = true ∧ (s ≠ none → 0 < c)) ∧ ∃ y : Int, rd m b (offOf o s + x.toNat * 1) = some (vi y) ∧ K y := by
  have hi : x.toNat < D.length := by omega
  have := h.ldi hi (K := K) (by rw [gd_get hi]; exact hk)
  rw [show ((x.toNat : Nat) : Int) = x by omega] at this
  exact this
theorem lvalid_valid (h : lvalid N L U.length = true) {E : List Int} (hE : ∀ x ∈ E, 0 ≤ x ∧ x < N) : validP N L U.length E = true := by
  simp only [lvalid, Bool.and_eq_true, decide_eq_true_eq] at h
  obtain ⟨h1, ⟨h2, h3⟩, h4, h5⟩ := h
  have h6 : E.all (inN N) = true := by
    rw [List.all_eq_true]
    intro x hx
    simp [-Bool.exists_bool, inN, hE x hx]
  simp only [validP, h5, h6, decide_eq_true h2, decide_eq_true h3, decide_eq_true h4, Bool.true_and, Bool.and_true]
  exact decide_eq_true (by omega)
theorem lvalid_ok (h : lvalid N L U.length = true) : (mkG N L U).Ok ∧ L.length ≤ 60 ∧ 1 ≤ N ∧ N ≤ 32 ∧ U.length = L.length ∧ (mkG N L U).N = N.toNat ∧ (mkG N L U).X = L.zip U := by
  have hv := (valid_iff (lvalid_valid h (E := []) (by simp [-Bool.exists_bool]))).1
  simp only [lvalid, Bool.and_eq_true, decide_eq_true_eq] at h
  obtain ⟨h1, ⟨h2, h3⟩, h4, h5⟩ := h
  exact ⟨hv, h1, h2, h3, h4, rfl, rfl⟩
/-- What a call of dist hands back, of a network that is valid. -/
theorem NS.vdist {x : Nat} (h : NS m n x N L U la ua ll lc ul uc) (hv : lvalid N L U.length = true) {f : Int} (h0 : 0 ≤ f) (h1 : f < N) :
    ∃ m' n' a D, IsDist (mkG N L U) f.toNat D ∧ (D.length : Int) = N ∧ Ow m' n n' tInt 1 a D.length D.length (D.map vi) ∧ Le m n m' n' ∧ (Fs m n → Fs m' n') ∧ Exact Try.prog fLaw10Netdist [netV N la ll lc ua ul uc, vi f] m n (.slice a D.length D.length) m' n' := by
  obtain ⟨m', n', a, D, h2, h3, h4, h5, run⟩ := netdist_c (N := N) (f := f) h.hl h.hu h.sl h.su
  have hd : IsDist (mkG N L U) f.toNat D := by
    unfold DistR at h2
    rw [if_pos (lvalid_valid hv (by simp; omega))] at h2
    exact h2
  have := hd.len
  have := (lvalid_ok hv).2.2.2.2.2.1
  exact ⟨m', n', a, D, hd, by omega, h3, h4, h5, run⟩
theorem NS.vnext {x : Nat} (h : NS m n x N L U la ua ll lc ul uc) (hv : lvalid N L U.length = true) {f t : Int} (h0 : 0 ≤ f) (h1 : f < N) (h2 : 0 ≤ t) (h3 : t < N) :
    ∃ m' n' a d, IsDist (mkG N L U) t.toNat d ∧ Ow m' n n' tInt 1 a (nextL (mkG N L U) d f.toNat).length (nextL (mkG N L U) d f.toNat).length ((nextL (mkG N L U) d f.toNat).map vi) ∧ Le m n m' n' ∧ (Fs m n → Fs m' n') ∧
      Exact Try.prog fLaw10Netnext [netV N la ll lc ua ul uc, vi f, vi t] m n (.slice a (nextL (mkG N L U) d f.toNat).length (nextL (mkG N L U) d f.toNat).length) m' n' := by
  obtain ⟨m', n', a, D, h4, h5, h6, h7, run⟩ := netnext_c (N := N) (f := f) (t := t) h.hl h.hu h.sl h.su
  unfold NextR at h4
  rw [if_pos (lvalid_valid hv (by simp; omega))] at h4
  obtain ⟨d, hd, rfl⟩ := h4
  exact ⟨m', n', a, d, hd, h5, h6, h7, run⟩
theorem NS.vpaths {x : Nat} (h : NS m n x N L U la ua ll lc ul uc) (hv : lvalid N L U.length = true) {f t : Int} (h0 : 0 ≤ f) (h1 : f < N) (h2 : 0 ≤ t) (h3 : t < N) :
    ∃ m' n' d, IsDist (mkG N L U) t.toNat d ∧ Le m n m' n' ∧ (Fs m n → Fs m' n') ∧ Exact Try.prog fLaw10Netpaths [netV N la ll lc ua ul uc, vi f, vi t] m n (vi (pathsN (mkG N L U) d t.toNat f.toNat)) m' n' := by
  obtain ⟨m', n', x, h4, h6, h7, run⟩ := netpaths_c (N := N) (f := f) (t := t) h.hl h.hu h.sl h.su
  unfold PathsR at h4
  rw [if_pos (lvalid_valid hv (by simp; omega))] at h4
  obtain ⟨d, hd, rfl⟩ := h4
  exact ⟨m', n', d, hd, h6, h7, run⟩
theorem NS.vpath {x : Nat} (h : NS m n x N L U la ua ll lc ul uc) (hv : lvalid N L U.length = true) {f t : Int} (h0 : 0 ≤ f) (h1 : f < N) (h2 : 0 ≤ t) (h3 : t < N) :
    ∃ m' n' a d l, IsDist (mkG N L U) f.toNat d ∧ Back (mkG N L U) d t.toNat l ∧ Ow m' n n' tInt 1 a l.reverse.length l.reverse.length (l.reverse.map vi) ∧ Le m n m' n' ∧ (Fs m n → Fs m' n') ∧ Exact Try.prog fLaw10Netpath [netV N la ll lc ua ul uc, vi f, vi t] m n (.slice a l.reverse.length l.reverse.length) m' n' := by
  obtain ⟨m', n', a, D, h4, h5, h6, h7, run⟩ := netpath_c (N := N) (f := f) (t := t) h.hl h.hu h.sl h.su
  unfold PathR at h4
  rw [if_pos (lvalid_valid hv (by simp; omega))] at h4
  obtain ⟨d, l, hd, hb, rfl⟩ := h4
  exact ⟨m', n', a, d, l, hd, hb, h5, h6, h7, run⟩
theorem NS.vparents {x : Nat} (h : NS m n x N L U la ua ll lc ul uc) (hv : lvalid N L U.length = true) {f : Int} (h0 : 0 ≤ f) (h1 : f < N) :
    ∃ m' n' a d, IsDist (mkG N L U) f.toNat d ∧ Ow m' n n' tInt 1 a (parentsL (mkG N L U) d).length (parentsL (mkG N L U) d).length ((parentsL (mkG N L U) d).map vi) ∧ Le m n m' n' ∧ (Fs m n → Fs m' n') ∧
      Exact Try.prog fLaw10Netparents [netV N la ll lc ua ul uc, vi f] m n (.slice a (parentsL (mkG N L U) d).length (parentsL (mkG N L U) d).length) m' n' := by
  obtain ⟨m', n', a, D, h4, h5, h6, h7, run⟩ := netparents_c (N := N) (f := f) h.hl h.hu h.sl h.su
  unfold ParR at h4
  rw [if_pos (lvalid_valid hv (by simp; omega))] at h4
  obtain ⟨d, hd, rfl⟩ := h4
  exact ⟨m', n', a, d, hd, h5, h6, h7, run⟩
/-- The network that came in, in its own block. -/
theorem ns_new (hL : Sl m n la lc (L.flatMap encL)) (hU : Sl m n ua uc (U.map Value.bool)) : NS (m.set n (.cells none tLaw10Net 3 [vi N, .slice la L.length lc, .slice ua U.length uc])) (n + 1) n N L U la ua L.length lc U.length uc :=
  ⟨by simp [-Bool.exists_bool, Tr.get_set], by omega, hL.le Le.new, hU.le Le.new, rfl, rfl⟩

theorem triangle_law {a b c : Int} (hL : Sl m n la lc (L.flatMap encL)) (hU : Sl m n ua uc (U.map Value.bool)) {Q : Value → Mem → Nat → Prop} (hq : ∀ m' n', Q (.bool true) m' n') :
    Wc Try.prog fLaw10SpfTriangle [netV N la L.length lc ua U.length uc, vi a, vi b, vi c] m n Q := by
  refine Wc_of mixed (cfg := xcfg) (fuel := 400) ?_
  rw [xLaw10SpfTriangle]
  refine memLet.mk fun m0 e => ?_
  have ns0 : NS m0 (n + 1) n N L U la ua L.length lc U.length uc := by rw [e]; exact ns_new hL hU
  clear e
  refine known_c ⟨_, rfl, Later.mk ⟨_, _, _, _, _, _, _, rds_of ns0.get, lvalid_c ns0.hl ns0.sl ⟨_, rfl, Later.mk ?_⟩⟩⟩
  refine condB (fun _ => hq _ _) fun hv => ?_
  have hv : lvalid N L U.length = true := by simpa [-Bool.exists_bool] using hv
  obtain ⟨hg, _, hN1, hN2, _, _, _⟩ := lvalid_ok hv
  have ga := ns0.get
  have ba := pickM_bnd (x := a) (n := N) (by omega)
  have bb := pickM_bnd (x := b) (n := N) (by omega)
  have bc := pickM_bnd (x := c) (n := N) (by omega)
  refine ⟨isC_of ga, _, rd_of ga rfl, _, _, _, pick_c (by omega) (by omega) ⟨rfl, rfl, rfl⟩, Later.mk ⟨isC_of ga, _, rd_of ga rfl, _, _, _, pick_c (by omega) (by omega) ⟨rfl, rfl, rfl⟩, Later.mk ⟨isC_of ga, _, rd_of ga rfl, _, _, _, pick_c (by omega) (by omega) ⟨rfl, rfl, rfl⟩, Later.mk ?_⟩⟩⟩
  refine ⟨⟨_, rd_of ga rfl, rfl⟩, ⟨_, rd_of ga rfl, rfl⟩, ⟨isC_of ga, rfl⟩, ⟨isC_of ga, rfl⟩, ⟨_, rd_of ga rfl, rfl⟩, ⟨isC_of ga, rfl⟩, Nat.le_refl _, Nat.le_refl _, Nat.le_refl _, ?_⟩
  generalize pickM a N = a' at *
  generalize pickM b N = b' at *
  generalize pickM c N = c' at *
  have ns1 : NS m0 (n + 1 + 15 + 8) n N L U la ua L.length lc U.length uc := ns0.le (Le.refl.up (by omega))
  obtain ⟨m1, n1, pa, d, hd, hdl, ow1, le1, _, run1⟩ := ns1.vdist hv ba.1 ba.2
  have ns2 := ns1.le le1
  obtain ⟨m2, n2, pb, e, he, hel, ow2, le2, _, run2⟩ := ns2.vdist hv bb.1 bb.2
  have ns3 := ns2.le le2
  have g1 := ns2.get
  have g2 := ns3.get
  have l1 := le1.le
  have l2 := le2.le
  refine ⟨_, _, _, _, _, _, _, rds_of ga, _, _, _, _, _, run1 _ ⟨rfl, rfl, rfl⟩, Later.mk ⟨_, _, _, _, _, _, _, rds_of g1, _, _, _, _, _, run2 _ ⟨rfl, rfl, rfl⟩, Later.mk ⟨⟨_, _, _, _, _, _, _, rds_of ga, rfl⟩, by omega, by omega, isC_of g2, _, rd_of g2 rfl, ?_⟩⟩⟩
  have sd := (ow1.le le2).sl
  have se := ow2.sl
  refine condNF hdl ⟨isC_of g2, _, rd_of g2 rfl, condNF hel ?_⟩
  refine ldx sd bb.1 (by omega) (ldx se ba.1 (by omega) (condNF (hd.sym hg he) ?_))
  refine ldx sd bb.1 (by omega) (condD (fun h1 => ?_) fun _ => hq _ _)
  refine ldx se bc.1 (by omega) (condD (fun h2 => ?_) fun _ => hq _ _)
  have ht := hd.tri hg he h1 h2
  refine ldx sd bc.1 (by omega) (condDF (by omega) (ldx sd bc.1 (by omega) (ldx sd bb.1 (by omega) (ldx se bc.1 (by omega) ?_))))
  have v1 := hd.val b'.toNat
  have v2 := he.val c'.toNat
  rw [wrap_id (by omega) (by omega)]
  exact condDF (by omega) (hq _ _)

/-- What came in. -/
theorem undInt : Try.prog.underlying tInt = some (.int .i64) := by kernel_rfl
theorem undBool : Try.prog.underlying tBool = some .bool := by kernel_rfl
theorem undLbool : Try.prog.underlying tLbool = some (.slice tBool) := by kernel_rfl
theorem undLlink : Try.prog.underlying tLapiLink = some (.slice tApiLink) := by kernel_rfl
theorem fldLink : fieldTys Try.prog tApiLink = some [tInt, tInt, tInt] := by kernel_rfl
theorem fldNet : fieldTys Try.prog tLaw10Net = some [tInt, tLapiLink, tLbool] := by kernel_rfl
theorem link_of {m : Mem} {f : Nat} {cs : List Value} (h : TyC Try.prog m f tApiLink cs) : ∃ l : Lk, cs = encL l := by
  obtain ⟨f, parts, rfl, hlen, hp⟩ := TyC.fields fldLink h
  match parts, hlen with
  | [p0, p1, p2], _ =>
    obtain ⟨a, rfl, _⟩ := TyC.int undInt (hp 0 tInt p0 (by simp [-Bool.exists_bool]) (by simp [-Bool.exists_bool]))
    obtain ⟨b, rfl, _⟩ := TyC.int undInt (hp 1 tInt p1 (by simp [-Bool.exists_bool]) (by simp [-Bool.exists_bool]))
    obtain ⟨c, rfl, _⟩ := TyC.int undInt (hp 2 tInt p2 (by simp [-Bool.exists_bool]) (by simp [-Bool.exists_bool]))
    exact ⟨⟨a, b, c⟩, rfl⟩
theorem links_of {m : Mem} {n : Nat} (hf : ∀ i, n ≤ i → m.get i = none) {f : Nat} {cs : List Value} (h : TyC Try.prog m f tLapiLink cs) : ∃ la L lc, cs = [.slice la (L : List Lk).length lc] ∧ Sl m n la lc (L.flatMap encL) ∧ L.length ≤ 9223372036854775807 := by
  obtain ⟨id, len, cap, nl, es, f, rfl, h1, h2, h3, h4, h5, h6⟩ := TyC.slice undLlink h
  obtain ⟨L, e1, e2⟩ := rows_enc (enc := encL) (es := es) fun x hx => link_of (h6 x hx).2
  rw [e1] at h4
  obtain rfl : len = L.length := by omega
  exact ⟨_, L, cap, rfl, Sl.in_ h4 (lt_of_get hf h4) fun e => by rw [← e1, h5 e]; rfl, by unfold maxLen at h2; omega⟩
theorem bools_of {m : Mem} {n : Nat} (hf : ∀ i, n ≤ i → m.get i = none) {f : Nat} {cs : List Value} (h : TyC Try.prog m f tLbool cs) : ∃ ua U uc, cs = [.slice ua (U : List Bool).length uc] ∧ Sl m n ua uc (U.map Value.bool) ∧ U.length ≤ 9223372036854775807 := by
  obtain ⟨id, len, cap, nl, es, f, rfl, h1, h2, h3, h4, h5, h6⟩ := TyC.slice undLbool h
  obtain ⟨U, e1, e2⟩ := rows_one (f := Value.bool) (es := es) fun x hx => TyC.bool undBool (h6 x hx).2
  rw [e1] at h4
  obtain rfl : len = U.length := by omega
  exact ⟨_, U, cap, rfl, Sl.in_ h4 (lt_of_get hf h4) fun e => by rw [← e1, h5 e]; rfl, by unfold maxLen at h2; omega⟩
theorem net_of {m : Mem} {n : Nat} (hf : ∀ i, n ≤ i → m.get i = none) {v : Value} (h : TyV Try.prog m tLaw10Net v) : ∃ N la L lc ua U uc, v = netV N la (L : List Lk).length lc ua (U : List Bool).length uc ∧ Sl m n la lc (L.flatMap encL) ∧ Sl m n ua uc (U.map Value.bool) := by
  obtain ⟨f, cs, rfl, hc⟩ := TyV.st fldNet h
  obtain ⟨f, parts, rfl, hlen, hp⟩ := TyC.fields fldNet hc
  match parts, hlen with
  | [p0, p1, p2], _ =>
    obtain ⟨N, rfl, _⟩ := TyC.int undInt (hp 0 tInt p0 (by simp [-Bool.exists_bool]) (by simp [-Bool.exists_bool]))
    obtain ⟨la, L, lc, rfl, h1, _⟩ := links_of hf (hp 1 tLapiLink p1 (by simp [-Bool.exists_bool]) (by simp [-Bool.exists_bool]))
    obtain ⟨ua, U, uc, rfl, h2, _⟩ := bools_of hf (hp 2 tLbool p2 (by simp [-Bool.exists_bool]) (by simp [-Bool.exists_bool]))
    exact ⟨N, la, L, lc, ua, U, uc, rfl, h1, h2⟩
end
end Go.Proofs.Ytenpbdanffacjaa

namespace Go.Proofs.Ytenpbdanffacjaa
open Go Go.Ab Spf
def gb (R : List Bool) (v : Nat) : Bool := (R[v]?).getD false
theorem gb_get {R : List Bool} {v : Nat} (h : v < R.length) : R[v] = gb R v := by simp [-Bool.exists_bool, gb, h]
theorem gb_set {R : List Bool} {v w : Nat} {k : Bool} (h : v < R.length) : gb (R.set v k) w = if w = v then k else gb R w := by
  unfold gb
  rw [List.getElem?_set]
  by_cases e : v = w
  · subst e; simp [-Bool.exists_bool, h]
  · simp [-Bool.exists_bool, e, Ne.symm e]
section
variable {m m' : Mem} {n n' : Nat} {N : Int} {L : List Lk} {U : List Bool} {la ua : Option Addr} {ll lc ul uc : Nat}
theorem ldxb {D : List Bool} {a : Option Addr} {c : Nat} (h : Sl m n a c (D.map Value.bool)) {x : Int} (h0 : 0 ≤ x) (h1 : x < D.length) {K : Bool → Prop} (hk : K (gb D x.toNat)) :
    elimA a False fun b o s => (0 ≤ x ∧ x < (D.length : Int) ∧ liveAt m b = true ∧ (s ≠ none → 0 < c)) ∧ ∃ y : Bool, rd m b (offOf o s + x.toNat * 1) = some (.bool y) ∧ K y := by
  have hi : x.toNat < D.length := by omega
  have := h.ldb hi (K := K) (by rw [gb_get hi]; exact hk)
  rw [show ((x.toNat : Nat) : Int) = x by omega] at this
  exact this
/-- Writing a flag. -/
theorem stb {n0 T c : Nat} {R : List Bool} {a : Option Addr} (h : Ow m n0 n T 1 a R.length c (R.map Value.bool)) {x : Int} (h0 : 0 ≤ x) (h1 : x < R.length) (y : Bool) :
    ∃ b o s m', a = some ⟨b, o, s⟩ ∧ n0 ≤ b ∧ b < n ∧ liveAt m b = true ∧ (s ≠ none → 0 < c) ∧ storeCs m b (offOf o s + x.toNat * 1) [.bool y] = some m' ∧ Ow m' n0 n T 1 a R.length c ((R.set x.toNat y).map Value.bool) ∧ ∀ j, j ≠ b → m'.get j = m.get j := by
  obtain ⟨b, o, s, m1, e, p1, p2, p3, p4, p5, p6, p7⟩ := h.store (j := x.toNat) (vs := [.bool y]) (by simp; omega) (by simp [-Bool.exists_bool, cellOk]) (by simp [-Bool.exists_bool])
  simp only [List.length_singleton] at p6
  rw [map_take_drop_set Value.bool R x.toNat y (by omega)] at p6
  exact ⟨b, o, s, m1, e, p1, p2, p3, p4, by simpa [-Bool.exists_bool] using p5, p6, p7⟩

/-- What the loop over the links has marked. -/
structure BR (g : G) (d : List Int) (i : Nat) (R : List Bool) : Prop where
  len : R.length = g.N
  up : ∀ v, gb R v = true → 0 ≤ gd d v
  all : ∀ j w v c, j < i → St g j w v c → 0 ≤ gd d w → gd d v = gd d w + c → gb R v = true

theorem zip_at {i : Nat} (hul : U.length = L.length) (hi : i < L.length) : (mkG N L U).X[i]? = some (L[i], U[i]'(by omega)) := by
  simp [-Bool.exists_bool, mkG, List.getElem?_zip_eq_some, hi]

def mark (R : List Bool) (c : Prop) [Decidable c] (v : Nat) : List Bool := if c then R.set v true else R
theorem BR.step {g : G} (hg : g.Ok) {d : List Int} {i : Nat} {R : List Bool} (h : BR g d i R) {l : Lk} (hl : g.X[i]? = some (l, true)) :
    BR g d (i + 1) (mark (mark R (0 ≤ gd d l.a.toNat ∧ gd d l.a.toNat - gd d l.b.toNat = l.c) l.a.toNat) (0 ≤ gd d l.a.toNat ∧ gd d l.b.toNat - gd d l.a.toNat = l.c) l.b.toNat) := by
  have hlk := hg.at hl
  have hla : l.a.toNat < R.length := by rw [h.len]; omega
  have hlb : l.b.toNat < R.length := by rw [h.len]; omega
  have m1 : ∀ (c : Prop) [Decidable c] (v w : Nat) (R' : List Bool), R'.length = R.length → v < R.length → gb (mark R' c v) w = if c ∧ w = v then true else gb R' w := fun c _ v w R' h1 h2 => by
    unfold mark
    by_cases hc : c
    · rw [if_pos hc, gb_set (by omega)]; by_cases e : w = v <;> simp [-Bool.exists_bool, hc, e]
    · rw [if_neg hc]; simp [-Bool.exists_bool, hc]
  have ml : ∀ (c : Prop) [Decidable c] (v : Nat) (R' : List Bool), (mark R' c v).length = R'.length := fun c _ v R' => by unfold mark; split <;> simp [-Bool.exists_bool]
  refine ⟨by rw [ml, ml]; exact h.len, fun v hv => ?_, fun j w v c hj s h0 h1 => ?_⟩
  · rw [m1 _ _ _ _ (ml _ _ _) hlb, m1 _ _ _ _ rfl hla] at hv
    split at hv
    · rename_i hc; rw [hc.2]; omega
    · split at hv
      · rename_i hc; rw [hc.2]; exact hc.1.1
      · exact h.up v hv
  · rw [m1 _ _ _ _ (ml _ _ _) hlb, m1 _ _ _ _ rfl hla]
    by_cases hji : j = i
    · subst hji
      obtain ⟨l', s1, s2, s3⟩ := s
      rw [hl] at s1; cases s1
      subst s3
      rcases other_cases (l := l) (n := (w : Int)) with ⟨e1, e2⟩ | ⟨_, e1, e2⟩ | ⟨_, _, e2⟩
      · have ew : l.a.toNat = w := by omega
        have ev : l.b.toNat = v := by omega
        rw [ew, ev, if_pos ⟨⟨h0, by omega⟩, rfl⟩]
      · have ew : l.b.toNat = w := by omega
        have ev : l.a.toNat = v := by omega
        rw [ew, ev]
        split
        · rfl
        · rw [if_pos ⟨⟨by omega, by omega⟩, rfl⟩]
      · omega
    · split
      · rfl
      · split
        · rfl
        · exact h.all j w v c (by omega) s h0 h1

theorem bell_links {m0 : Mem} {n0 x : Nat} {f : Int} {d : List Int} {da ra : Option Addr} {dc : Nat} (ns : NS m0 n0 x N L U la ua L.length lc U.length uc) (hv : lvalid N L U.length = true) (hf0 : 0 ≤ f) (hf : f < N) (hd : IsDist (mkG N L U) f.toNat d) (sd : Sl m0 n0 da dc (d.map vi))
    {Q : Value → Mem → Nat → Prop}
    (fin : ∀ (R : List Bool) m n, BR (mkG N L U) d L.length R → Le m0 n0 m n → Ow m n0 n tBool 1 ra R.length R.length (R.map Value.bool) → W Try.prog { fn := fLaw10SpfBellman, nt := 146, slots := [(1, vi f), (2, pp x), (5, .bool true), (6, .slice da d.length dc), (7, .slice ra R.length R.length), (12, vi 0)], todo := pt Try.prog fLaw10SpfBellman [1, 1, 1, 1, 1, 1, 1, 1, 0, 1, 0, 0] } m n Q) :
    ∀ (k i : Nat) (R : List Bool) (m : Mem) (n : Nat), i + k = L.length → BR (mkG N L U) d i R → Le m0 n0 m n → Ow m n0 n tBool 1 ra R.length R.length (R.map Value.bool) →
      W Try.prog { fn := fLaw10SpfBellman, nt := 146, slots := [(1, vi f), (2, pp x), (5, .bool true), (6, .slice da d.length dc), (7, .slice ra R.length R.length), (8, vi i)], todo := pt Try.prog fLaw10SpfBellman [1, 1, 1, 1, 1, 1, 1, 0, 1, 0, 0] } m n Q := by
  obtain ⟨hg, hl60, hN1, hN2, hul, hgN, hgX⟩ := lvalid_ok hv
  have dlen := hd.len
  intro k
  induction k with
  | zero =>
    intro i R m n h hb hle ho
    obtain rfl : i = L.length := by omega
    have gx := (ns.le hle).get
    refine W_of mixed (cfg := xcfg) (fuel := 400) ?_
    rw [xLaw10SpfBellmank0]
    exact ⟨isC_of gx, _, _, _, rd_of gx rfl, condDF (by omega) (fin R m n hb hle ho)⟩
  | succ k ih =>
    intro i R m n h hb hle ho
    have hi : i < L.length := by omega
    have ns1 := ns.le hle
    have gx := ns1.get
    have lx := ns1.lt
    have hz := zip_at (N := N) (U := U) hul hi
    have h0 := hle.le
    generalize hl : L[i] = l at hz
    have hlk := hg.at hz
    rw [hgN] at hlk
    generalize hm1 : (m.set n (.cells none tApiLink 3 [.int .i64 0, .int .i64 0, .int .i64 0])).set n (.cells none tApiLink 3 (encL l)) = ma
    have ka : ∀ j, j ≠ n → ma.get j = m.get j := fun j hj => by rw [← hm1, Tr.get_set, if_neg (fun e => hj e.symm), Tr.get_set, if_neg (fun e => hj e.symm)]
    have ga : ma.get n = some (.cells none tApiLink 3 (encL l)) := by rw [← hm1]; simp [-Bool.exists_bool, Tr.get_set]
    have hst : storeCs (m.set n (.cells none tApiLink 3 [.int .i64 0, .int .i64 0, .int .i64 0])) n 0 (encL l) = some ma := by
      have := store_of (m := m.set n (.cells none tApiLink 3 [.int .i64 0, .int .i64 0, .int .i64 0])) (b := n) (off := 0) (vs := encL l) (T := tApiLink) (sz := 3) (cs := [.int .i64 0, .int .i64 0, .int .i64 0]) (by simp [-Bool.exists_bool, Tr.get_set]) (by simp [-Bool.exists_bool]) (by simp [-Bool.exists_bool, encL, cellOk])
      rw [this, ← hm1]
      simp [-Bool.exists_bool, encL]
    have hla : Le m n ma (n + 1) := ⟨by omega, fun j hj => ka j (by omega)⟩
    have hle1 := hle.trans hla
    have nsa := ns1.le hla
    have gxa := nsa.get
    have hoa := ho.le hla
    have hw := wrapN (k := i) (by omega)
    refine W_of mixed (cfg := xcfg) (fuel := 400) ?_
    rw [xLaw10SpfBellmank0, hw]
    refine ⟨isC_of gx, _, _, _, rd_of gx rfl, condDT (by omega) ⟨isC_of gx, _, _, _, rd_of gx rfl, ns1.sl.ldv encL_len hi (by omega) fun b o s _ _ r1 => ⟨l.a, l.b, l.c, by rw [hl] at r1; exact r1, memLet.mk fun mm e => ⟨ma, by rw [e]; exact hst, isC_of gxa, _, _, _, rd_of gxa rfl, ?_⟩⟩⟩⟩
    have hiu : i < U.length := by omega
    have nxt : ∀ R' m' n', BR (mkG N L U) d (i + 1) R' → Le m0 n0 m' n' → Ow m' n0 n' tBool 1 ra R'.length R'.length (R'.map Value.bool) → W Try.prog { fn := fLaw10SpfBellman, nt := 146, slots := [(1, vi f), (2, pp x), (5, .bool true), (6, .slice da d.length dc), (7, .slice ra R'.length R'.length), (8, vi ((i + 1 : Nat) : Int))], todo := pt Try.prog fLaw10SpfBellman [1, 1, 1, 1, 1, 1, 1, 0, 1, 0, 0] } m' n' Q :=
      fun R' m' n' h1 h2 h3 => ih (i + 1) R' m' n' (by omega) h1 h2 h3
    have key := nsa.su.ldb (i := i) hiu (K := fun b => b = U[i]) rfl
    revert key
    generalize (ua) = uz
    intro key
    rcases uz with _ | ⟨b1, o1, s1⟩
    · exact key.elim
    obtain ⟨t1, b20, t2, t3⟩ := key
    refine ⟨t1, b20, t2, ?_⟩
    rw [t3]
    cases hu : U[i] with
    | false =>
      refine condT rfl (nxt R ma (n + 1) ⟨hb.len, hb.up, fun j w v c hj s => ?_⟩ hle1 hoa)
      by_cases hji : j = i
      · subst hji
        obtain ⟨l', s1, _⟩ := s
        rw [hz, hu] at s1; cases s1
      · exact hb.all j w v c (by omega) s
    | true =>
      rw [hu] at hz
      have hA : ((l.a.toNat : Nat) : Int) = l.a := by omega
      have hB : ((l.b.toNat : Nat) : Int) = l.b := by omega
      have sAB : St (mkG N L U) i l.a.toNat l.b.toNat l.c := ⟨l, hz, by rw [hA]; unfold other; rw [if_pos rfl]; omega, rfl⟩
      have sBA := sAB.symm hg
      have eAB := hd.edge _ _ _ _ sAB
      have eBA := hd.edge _ _ _ _ sBA
      have vA := hd.val l.a.toNat
      have vB := hd.val l.b.toNat
      have lA := hd.lo l.a.toNat
      have lB := hd.lo l.b.toNat
      have sda : Sl ma (n + 1) da dc (d.map vi) := sd.le hle1
      have rl := hb.len
      rw [hgN] at rl dlen
      refine condF rfl ⟨isC_of ga, _, rd_of ga rfl, ldx sda (by omega) (by omega) ⟨isC_of ga, _, rd_of ga rfl, ldx sda (by omega) (by omega) ?_⟩⟩
      have step := hb.step hg hz
      generalize gd d l.a.toNat = A at *
      generalize gd d l.b.toNat = B at *
      refine condF ?_ ?_
      · by_cases hA0 : A < 0
        · have : B < 0 := by omega
          simp [-Bool.exists_bool, hA0, this]
        · have : ¬ B < 0 := by omega
          simp [-Bool.exists_bool, hA0, this]
      have w1 : IntKind.i64.wrap (A - B) = A - B := wrap_id (by omega) (by omega)
      have w2 : IntKind.i64.wrap (B - A) = B - A := wrap_id (by omega) (by omega)
      rw [w1, w2]
      refine ⟨isC_of ga, _, rd_of ga rfl, condDF (by omega) ⟨isC_of ga, _, rd_of ga rfl, condDF (by omega) ?_⟩⟩
      -- the second mark, and on
      have ml : ∀ (c : Prop) [Decidable c] (v : Nat) (R' : List Bool), (mark R' c v).length = R'.length := fun c _ v R' => by unfold mark; split <;> simp [-Bool.exists_bool]
      have second : ∀ (R1 : List Bool) (m2 : Mem) (n2 : Nat), R1 = mark R (0 ≤ A ∧ A - B = l.c) l.a.toNat → Le m0 n0 m2 n2 → Ow m2 n0 n2 tBool 1 ra R1.length R1.length (R1.map Value.bool) → m2.get n = some (.cells none tApiLink 3 (encL l)) →
          W Try.prog { fn := fLaw10SpfBellman, nt := 146, slots := [(1, vi f), (2, pp x), (5, .bool true), (6, .slice da d.length dc), (7, .slice ra R1.length R1.length), (8, vi i), (9, pp n), (10, vi A), (11, vi B)], todo := pt Try.prog fLaw10SpfBellman [1, 1, 1, 1, 1, 1, 1, 0, 1, 0, 0, 1, 0, 0, 1, 1, 1, 1, 1, 0] } m2 n2 Q := by
        intro R1 m2 n2 hR1 hle2 ho2 g2
        have rl1 : (R1.length : Int) = N := by rw [hR1, ml]; omega
        refine W_of1 mixed (cfg := xcfg) (fuel := 400) ?_
        rw [xLaw10SpfBellmank1, hw, w2]
        refine condD (fun hA0 => ⟨isC_of g2, _, rd_of g2 rfl, condE (fun hc => ?_) fun hc => ?_⟩) fun hA0 => ?_
        · obtain ⟨b, o, s, m3, e3, p1, p2, p3, p4, p5, p6, p7⟩ := stb ho2 (x := l.b) (by omega) (by omega) true
          subst e3
          refine ⟨isC_of g2, _, rd_of g2 rfl, ⟨by omega, by omega, p3, p4⟩, m3, p5, ?_⟩
          have el : (R1.set l.b.toNat true).length = R1.length := by simp [-Bool.exists_bool]
          have es : mark R1 (0 ≤ A ∧ B - A = l.c) l.b.toNat = R1.set l.b.toNat true := by unfold mark; rw [if_pos ⟨hA0, hc⟩]
          have := nxt (R1.set l.b.toNat true) m3 n2 (by rw [← es, hR1]; exact step) ⟨hle2.le, fun q hq => by rw [p7 q (by omega)]; exact hle2.same q hq⟩ (by rw [el]; exact p6)
          rw [el] at this
          exact this
        · have es : mark R1 (0 ≤ A ∧ B - A = l.c) l.b.toNat = R1 := by unfold mark; rw [if_neg (fun h => hc h.2)]
          exact nxt R1 m2 n2 (by rw [hR1, ← hR1, ← es, hR1]; exact step) hle2 ho2
        · have es : mark R1 (0 ≤ A ∧ B - A = l.c) l.b.toNat = R1 := by unfold mark; rw [if_neg (fun h => hA0 h.1)]
          exact nxt R1 m2 n2 (by rw [hR1, ← hR1, ← es, hR1]; exact step) hle2 ho2
      refine condD (fun hA0 => ⟨isC_of ga, _, rd_of ga rfl, condE (fun hc => ?_) fun hc => ?_⟩) fun hA0 => ?_
      · obtain ⟨b2, o2, s2, m3, e3, p1, p2, p3, p4, p5, p6, p7⟩ := stb (hoa.same (n' := n + 1 + 12) (by omega) fun _ _ _ _ => rfl) (x := l.a) (by omega) (by omega) true
        subst e3
        refine ⟨isC_of ga, _, rd_of ga rfl, ⟨by omega, by omega, p3, p4⟩, m3, p5, ?_⟩
        have el : (R.set l.a.toNat true).length = R.length := by simp [-Bool.exists_bool]
        have hb2 := (ho.bnd rfl)
        have := second (R.set l.a.toNat true) m3 (n + 1 + 12) (by unfold mark; rw [if_pos ⟨hA0, hc⟩]) ⟨by omega, fun q hq => by rw [p7 q (by omega)]; exact hle1.same q hq⟩ (by rw [el]; exact p6) (by rw [p7 n (by omega)]; exact ga)
        rw [el] at this
        exact this
      · exact second R ma (n + 1 + 12) (by unfold mark; rw [if_neg (fun h => hc h.2)]) (hle1.up (by omega)) (hoa.same (by omega) fun _ _ _ _ => rfl) ga
      · exact second R ma (n + 1 + 12) (by unfold mark; rw [if_neg (fun h => hA0 h.1)]) (hle1.up (by omega)) (hoa.same (by omega) fun _ _ _ _ => rfl) ga
theorem bell_nodes {m0 : Mem} {n0 x : Nat} {f : Int} {d : List Int} {da ra : Option Addr} {dc rc : Nat} {R : List Bool} (ns : NS m0 n0 x N L U la ua L.length lc U.length uc) (hv : lvalid N L U.length = true) (hf0 : 0 ≤ f) (hf : f < N) (hd : IsDist (mkG N L U) f.toNat d) (sd : Sl m0 n0 da dc (d.map vi)) (hb : BR (mkG N L U) d L.length R) (sr : Sl m0 n0 ra rc (R.map Value.bool))
    {Q : Value → Mem → Nat → Prop} (hq : ∀ n', Q (.bool true) m0 n') :
    ∀ (k i : Nat) (n : Nat), i + k = N.toNat → n0 ≤ n → W Try.prog { fn := fLaw10SpfBellman, nt := 146, slots := [(1, vi f), (2, pp x), (5, .bool true), (6, .slice da d.length dc), (7, .slice ra R.length rc), (12, vi i)], todo := pt Try.prog fLaw10SpfBellman [1, 1, 1, 1, 1, 1, 1, 1, 0, 1, 0, 0] } m0 n Q := by
  obtain ⟨hg, hl60, hN1, hN2, hul, hgN, hgX⟩ := lvalid_ok hv
  have dlen := hd.len
  have rlen := hb.len
  rw [hgN] at dlen rlen
  intro k
  induction k with
  | zero =>
    intro i n h hn
    refine W_of mixed (cfg := xcfg) (fuel := 400) ?_
    rw [xLaw10SpfBellmank2]
    exact ⟨isC_of ns.get, _, rd_of ns.get rfl, condDF (by omega) (hq n)⟩
  | succ k ih =>
    intro i n h hn
    have nxt := ih (i + 1) (n + 22) (by omega) (by omega)
    rw [← wrapN (k := i) (by omega)] at nxt
    have sd' : Sl m0 n da dc (d.map vi) := sd.same hn fun _ _ _ _ => rfl
    have sr' : Sl m0 n ra rc (R.map Value.bool) := sr.same hn fun _ _ _ _ => rfl
    have hlo := hd.lo (i : Int).toNat
    refine W_of mixed (cfg := xcfg) (fuel := 400) ?_
    rw [xLaw10SpfBellmank2]
    refine ⟨isC_of ns.get, _, rd_of ns.get rfl, condDT (by omega) (condN (fun hne => ?_) fun he => ?_)⟩
    · refine ldx sd' (by omega) (by omega) (ldxb sr' (by omega) (by omega) (condF ?_ (ldx sd' (by omega) (by omega) (condDF (by omega) nxt))))
      have hiff : 0 ≤ gd d (i : Int).toNat ↔ gb R (i : Int).toNat = true := by
        constructor
        · intro h0
          rcases hd.back _ h0 with e | ⟨j, w, c, s, h1, h2⟩
          · omega
          · exact hb.all j w _ c (by have := (s.bnd hg).2.2.2.2.2; rw [hgX] at this; simp [-Bool.exists_bool] at this; omega) s h1 h2
        · exact hb.up _
      have e : decide (gd d (i : Int).toNat ≥ 0) = gb R (i : Int).toNat := by
        cases hgb : gb R (i : Int).toNat with
        | true => exact decide_eq_true (hiff.2 hgb)
        | false => exact decide_eq_false fun h => by rw [hiff.1 h] at hgb; cases hgb
      rw [e]; simp [-Bool.exists_bool]
    · exact ldx sd' (by omega) (by omega) (condDF (by omega) nxt)
theorem bellman_law {f : Int} (hL : Sl m n la lc (L.flatMap encL)) (hU : Sl m n ua uc (U.map Value.bool)) {Q : Value → Mem → Nat → Prop} (hq : ∀ m' n', Q (.bool true) m' n') :
    Wc Try.prog fLaw10SpfBellman [netV N la L.length lc ua U.length uc, vi f] m n Q := by
  refine Wc_of mixed (cfg := xcfg) (fuel := 400) ?_
  rw [xLaw10SpfBellman]
  refine memLet.mk fun m0 e => ?_
  have ns0 : NS m0 (n + 1) n N L U la ua L.length lc U.length uc := by rw [e]; exact ns_new hL hU
  clear e
  refine known_c ⟨_, rfl, Later.mk ⟨_, _, _, _, _, _, _, rds_of ns0.get, lvalid_c ns0.hl ns0.sl ⟨_, rfl, Later.mk ?_⟩⟩⟩
  refine condB (fun _ => hq _ _) fun hv => ?_
  have hv : lvalid N L U.length = true := by simpa [-Bool.exists_bool] using hv
  obtain ⟨hg, hl60, hN1, hN2, hul, hgN, hgX⟩ := lvalid_ok hv
  have ga := ns0.get
  have ba := pickM_bnd (x := f) (n := N) (by omega)
  refine ⟨isC_of ga, _, rd_of ga rfl, pick_c (by omega) (by omega) ⟨_, rfl, Later.mk ?_⟩⟩
  generalize pickM f N = f' at *
  obtain ⟨m1, n1, pa, d, hd, hdl, ow1, le1, _, run1⟩ := ns0.vdist hv ba.1 ba.2
  have ns1 := ns0.le le1
  have g1 := ns1.get
  have lx := ns1.lt
  have l1 := le1.le
  refine ⟨_, _, _, _, _, _, _, rds_of ga, run1 _ ⟨_, _, _, rfl, Later.mk ⟨isC_of g1, _, rd_of g1 rfl, condNF hdl ?_⟩⟩⟩
  refine ldx ow1.sl ba.1 (by omega) (condNF hd.src ⟨isC_of g1, _, rd_of g1 rfl, ⟨by omega, by omega, by omega⟩, memLet.mk fun m2 e => ?_⟩)
  have hrl : (List.replicate N.toNat false).length = N.toNat := by simp [-Bool.exists_bool]
  have hfl : (List.replicate N.toNat [Value.bool false]).flatten = (List.replicate N.toNat false).map Value.bool := by simp [-Bool.exists_bool]
  rw [hfl] at e
  have le2 : Le m1 n1 m2 (n1 + 1) := by rw [e]; exact Le.new
  have ow2 : Ow m2 n1 (n1 + 1) tBool 1 (some ⟨n1, 0, none⟩) (List.replicate N.toNat false).length (List.replicate N.toNat false).length ((List.replicate N.toNat false).map Value.bool) := by rw [e]; exact Ow.new (Nat.le_refl _) (by simp [-Bool.exists_bool])
  have br0 : BR (mkG N L U) d 0 (List.replicate N.toNat false) := ⟨by rw [hgN]; simp, fun v hv => by
    unfold gb at hv
    rw [List.getElem?_replicate] at hv
    split at hv <;> simp [-Bool.exists_bool] at hv, fun j w v c hj => by omega⟩
  have key := bell_links (x := n) (ns1) hv ba.1 ba.2 hd ow1.sl (ra := some ⟨n1, 0, none⟩) (Q := Q) (fun R m3 n3 hb hle ho => by
    have := bell_nodes (ns1.le hle) hv ba.1 ba.2 hd (ow1.sl.le hle) hb ho.sl (Q := Q) (fun n' => hq _ _) N.toNat 0 n3 (by omega) (Nat.le_refl _)
    exact this) L.length 0 (List.replicate N.toNat false) m2 (n1 + 1) (by omega) br0 le2 ow2
  rw [hrl] at key
  exact key
end
end Go.Proofs.Ytenpbdanffacjaa

namespace Go.Proofs.Ytenpbdanffacjaa
open Go Go.Ab Spf
section
variable {m m' : Mem} {n n' : Nat} {N : Int} {L : List Lk} {U : List Bool} {la ua : Option Addr} {ll lc ul uc : Nat}
/-- A link in its slice: all that is loaded of it. -/
theorem lnk (h : Sl m n la lc (L.flatMap encL)) {i : Nat} (hi : i < L.length) : ∃ b o s, la = some ⟨b, o, s⟩ ∧ liveAt m b = true ∧ (s ≠ none → 0 < lc) ∧ isC m b = true ∧ rds m b (offOf o s + i * 3) 3 = some (encL L[i]) ∧
    rd m b (offOf o s + i * 3) = some (vi L[i].a) ∧ rd m b (offOf o s + i * 3 + 1) = some (vi L[i].b) ∧ rd m b (offOf o s + i * 3 + 2) = some (vi L[i].c) := by
  have key := h.ldv encL_len hi (by omega) (K := fun b o s => isC m b = true ∧ rds m b (offOf o s + i * 3) 3 = some (encL L[i]) ∧ rd m b (offOf o s + i * 3) = some (vi L[i].a) ∧ rd m b (offOf o s + i * 3 + 1) = some (vi L[i].b) ∧ rd m b (offOf o s + i * 3 + 2) = some (vi L[i].c))
    fun b o s h1 h2 h3 => ⟨h1, h3, h2 0 _ rfl, h2 1 _ rfl, h2 2 _ rfl⟩
  rcases la with _ | ⟨b, o, s⟩
  · exact key.elim
  · obtain ⟨⟨_, _, h1, h2⟩, h3, h4, h5, h6, h7⟩ := key
    exact ⟨b, o, s, rfl, h1, h2, h3, h4, h5, h6, h7⟩
theorem next_ne {g : G} (hg : g.Ok) {t : Nat} {d : List Int} (hd : IsDist g t d) {v : Nat} (hv : v ≠ t) : nextL g d v ≠ [] ↔ 0 ≤ gd d v := by
  constructor
  · intro h
    obtain ⟨x, r, hx⟩ := List.exists_cons_of_ne_nil h
    obtain ⟨i, w, c, _, s, h1, h2⟩ := next_st.1 (show x ∈ nextL g d v by rw [hx]; simp [-Bool.exists_bool])
    have := s.bnd hg; omega
  · intro h
    rcases hd.back v h with e | ⟨i, x, c, s, h1, h2⟩
    · exact (hv e).elim
    · have : (i : Int) ∈ nextL g d v := next_st.2 ⟨i, x, c, rfl, s.symm hg, h1, by omega⟩
      intro e; rw [e] at this; cases this
theorem next_end {g : G} (hg : g.Ok) {t : Nat} {d : List Int} (hd : IsDist g t d) : nextL g d t = [] := by
  cases h : nextL g d t with
  | nil => rfl
  | cons x r =>
    obtain ⟨i, w, c, _, s, h1, h2⟩ := next_st.1 (show x ∈ nextL g d t by rw [h]; simp [-Bool.exists_bool])
    have := s.bnd hg
    rw [hd.src] at h2; omega
theorem next_len {g : G} (hg : g.Ok) {d : List Int} {v : Nat} : (nextL g d v).length ≤ 128 := by
  have := nextGo_len (d := d) (f := v) g.X 0
  have := hg.many
  unfold nextL; omega
/-- A step, said of the lists. -/
theorem st_lists (hul : U.length = L.length) {i u v : Nat} {c : Int} (s : St (mkG N L U) i u v c) : ∃ (hi : i < L.length) (hu : i < U.length), U[i] = true ∧ L[i].c = c ∧ other L[i] u = v := by
  obtain ⟨l, s1, s2, s3⟩ := s
  simp only [mkG, List.getElem?_zip_eq_some] at s1
  obtain ⟨h1, h2⟩ := s1
  obtain ⟨hi, e1⟩ := List.getElem?_eq_some_iff.1 h1
  obtain ⟨hu, e2⟩ := List.getElem?_eq_some_iff.1 h2
  exact ⟨hi, hu, e2, by rw [e1]; exact s3, by rw [e1]; exact s2⟩
theorem other_of {l : Lk} {u v : Nat} (h : other l u = v) : (l.a = u ∧ l.b = v ∧ (if l.a = (u : Int) then l.b else l.a) = v) ∨ (l.a ≠ u ∧ l.b = u ∧ (if l.a = (u : Int) then l.b else l.a) = v) := by
  rcases other_cases (l := l) (n := (u : Int)) with ⟨h1, h2⟩ | ⟨h1, h2, h3⟩ | ⟨h1, h2, h3⟩
  · exact .inl ⟨h1.symm, by omega, by rw [if_pos h1.symm]; omega⟩
  · exact .inr ⟨fun e => h1 e.symm, h2.symm, by rw [if_neg (fun e => h1 e.symm)]; omega⟩
  · omega

structure WkI (g : G) (d : List Int) (f : Nat) (v : Nat) (len k : Int) (R : List Bool) : Prop where
  rl : R.length = g.N
  vN : v < g.N
  or : v = f ∨ 0 ≤ gd d v
  len : len = gd d f - gd d v
  k0 : 0 ≤ k
  kb : k ≤ gd d f - gd d v
  seen : ∀ w, gb R w = true → gd d v < gd d w
theorem walk_loop {m0 : Mem} {n0 x : Nat} {f t : Int} {d : List Int} {da ra ta : Option Addr} {dc tc : Nat} {T : List Int} (hT : T.length ≤ 9223372036854775807) (ns : NS m0 n0 x N L U la ua L.length lc U.length uc) (hv : lvalid N L U.length = true) (hf0 : 0 ≤ f) (hf : f < N) (ht0 : 0 ≤ t) (ht : t < N)
    (hd : IsDist (mkG N L U) t.toNat d) (sd : Sl m0 n0 da dc (d.map vi)) (sT : Sl m0 n0 ta tc (T.map vi)) {Q : Value → Mem → Nat → Prop} (hq : ∀ m' n', Q (.bool true) m' n') :
    ∀ (j : Nat) (v : Nat) (len k : Int) (R : List Bool) (m : Mem) (n : Nat), gd d v < j → WkI (mkG N L U) d f.toNat v len k R → Le m0 n0 m n → Ow m n0 n tBool 1 ra R.length R.length (R.map Value.bool) →
      W Try.prog { fn := fLaw10SpfWalk, nt := 166, slots := [(1, vi f), (2, vi t), (3, .slice ta T.length tc), (4, pp x), (9, .bool true), (10, .slice da d.length dc), (11, .slice ra R.length R.length), (12, vi v), (13, vi len), (14, vi k)], todo := pt Try.prog fLaw10SpfWalk [1, 1, 1, 1, 1, 1, 1, 1, 0, 1, 0, 0] } m n Q := by
  obtain ⟨hg, hl60, hN1, hN2, hul, hgN, hgX⟩ := lvalid_ok hv
  have dlen := hd.len
  rw [hgN] at dlen
  intro j
  induction j with
  | zero =>
    intro v len k R m n hj I hle ho
    -- a node that is not reached: it is the first one, and nothing leads on
    have hvf : v = f.toNat := by rcases I.or with h | h; (· exact h); (· omega)
    have hvt : v ≠ t.toNat := by rintro rfl; rw [hd.src] at hj; omega
    have hnil : nextL (mkG N L U) d v = [] := by
      cases hc : nextL (mkG N L U) d v with
      | nil => rfl
      | cons a r => have := (next_ne hg hd hvt).1 (by rw [hc]; simp [-Bool.exists_bool]); omega
    have vN := I.vN
    rw [hgN] at vN
    have ns1 := ns.le hle
    obtain ⟨m1, n1, a, d', hd', ow1, le1, _, run1⟩ := ns1.vnext hv (f := (v : Int)) (t := t) (by omega) (by omega) ht0 ht
    obtain rfl := hd'.uniq hg hd
    rw [show ((v : Int).toNat) = v by omega, hnil] at ow1 run1
    have rl := I.rl
    rw [hgN] at rl
    have hsn : gb R v ≠ true := fun h => by have := I.seen v h; omega
    refine W_of mixed (cfg := xcfg) (fuel := 400) ?_
    rw [xLaw10SpfWalkk0]
    refine condNT (by omega) ⟨_, _, _, _, _, _, _, rds_of ns1.get, run1 _ ⟨_, _, _, rfl, Later.mk ?_⟩⟩
    refine ldx (sd.le (hle.trans le1)) (by omega) (by omega) (condF ?_ (ldxb (ho.sl.le le1) (by omega) (by omega) ?_))
    · have : ¬ gd d' (v : Int).toNat ≥ 0 := by rw [show ((v : Int).toNat) = v by omega]; omega
      rw [decide_eq_false this]; rfl
    · rw [show ((v : Int).toNat) = v by omega]
      cases hgb : gb R v with
      | true => exact (hsn hgb).elim
      | false =>
        refine condF rfl (condET rfl (condT rfl ?_))
        have : ((v : Int) == f) = true := by simp; omega
        rw [this]; exact hq _ _
  | succ j ih =>
    intro v len k R m n hj I hle ho
    have vN := I.vN
    rw [hgN] at vN
    have ns1 := ns.le hle
    have rl := I.rl
    rw [hgN] at rl
    have hvv : ((v : Int).toNat) = v := by omega
    by_cases hvt : v = t.toNat
    · -- the end
      have hlen := I.len
      obtain ⟨m1, n1, a, d', hd', ow1, le1, _, run1⟩ := ns1.vnext hv (f := t) (t := t) ht0 ht ht0 ht
      obtain rfl := hd'.uniq hg hd
      rw [next_end hg hd] at run1
      refine W_of mixed (cfg := xcfg) (fuel := 400) ?_
      rw [xLaw10SpfWalkk0]
      refine condNF (by omega) (condT rfl (ldx (sd.le hle) hf0 (by omega) (condET ?_ ⟨_, _, _, _, _, _, _, rds_of ns1.get, run1 _ ⟨_, _, _, rfl, Later.mk (hq _ _)⟩⟩)))
      rw [hlen, hvt, hd.src]; omega
    · obtain ⟨m1, n1, a, d', hd', ow1, le1, _, run1⟩ := ns1.vnext hv (f := (v : Int)) (t := t) (by omega) (by omega) ht0 ht
      obtain rfl := hd'.uniq hg hd
      rw [hvv] at ow1 run1
      have hle1 := hle.trans le1
      have ns2 := ns1.le le1
      have ho1 := ho.le le1
      have h0 := hle.le
      have l1 := le1.le
      have hsn : gb R v ≠ true := fun h => by have := I.seen v h; omega
      have hne := next_ne hg hd hvt
      refine W_of mixed (cfg := xcfg) (fuel := 400) ?_
      rw [xLaw10SpfWalkk0]
      refine condNT (by omega) ⟨_, _, _, _, _, _, _, rds_of ns1.get, run1 _ ⟨_, _, _, rfl, Later.mk ?_⟩⟩
      refine ldx (sd.le hle1) (by omega) (by omega) ?_
      rw [hvv]
      have hcmp : decide (((nextL (mkG N L U) d' v).length : Int) > 0) = decide (gd d' v ≥ 0) := by
        by_cases h : 0 ≤ gd d' v
        · have := List.length_pos_iff.2 (hne.2 h)
          rw [decide_eq_true (by omega), decide_eq_true h]
        · have : ¬ 0 < (nextL (mkG N L U) d' v).length := fun h' => h (hne.1 (List.length_pos_iff.1 h'))
          rw [decide_eq_false (by omega), decide_eq_false h]
      refine condF (by rw [hcmp]; simp [-Bool.exists_bool]) (ldxb ho1.sl (by omega) (by omega) ?_)
      rw [hvv]
      cases hgb : gb R v with
      | true => exact (hsn hgb).elim
      | false =>
      refine condF rfl (condE (fun hz => ?_) fun hz => ?_)
      · -- no way on: only from the first one
        have hun : ¬ 0 ≤ gd d' v := fun h => by have := List.length_pos_iff.2 (hne.2 h); omega
        have hvf : v = f.toNat := by rcases I.or with h | h; (· exact h); (· exact (hun h).elim)
        refine condT rfl ?_
        have : ((v : Int) == f) = true := by simp; omega
        rw [this]; exact hq _ _
      have hpos : 0 < (nextL (mkG N L U) d' v).length := by omega
      have hreach : 0 ≤ gd d' v := hne.1 (List.length_pos_iff.1 hpos)
      obtain ⟨bb, oo, ss, m2, eo, p1, p2, p3, p4, p5, p6, p7⟩ := stb ho1 (x := (v : Int)) (by omega) (by omega) true
      subst eo
      have hbx := (ho.bnd rfl)
      have hle2 : Le m0 n0 m2 n1 := ⟨by omega, fun q hq => by rw [p7 q (by omega)]; exact hle1.same q hq⟩
      have ns3 := ns.le hle2
      have ow2 : Sl m2 n1 a (nextL (mkG N L U) d' v).length ((nextL (mkG N L U) d' v).map vi) := ow1.sl.same (Nat.le_refl _) fun b o s e => p7 b (by have := (ow1.bnd e).1; omega)
      have hnl := next_len (g := mkG N L U) hg (d := d') (v := v)
      have rl1 : (R.set v true).length = R.length := by simp [-Bool.exists_bool]
      rw [hvv] at p6
      -- the choice
      have choose : ∀ tt : Int, W Try.prog { fn := fLaw10SpfWalk, nt := 166, slots := [(1, vi f), (2, vi t), (3, .slice ta T.length tc), (4, pp x), (9, .bool true), (10, .slice da d'.length dc), (11, .slice (some ⟨bb, oo, ss⟩) R.length R.length), (12, vi v), (13, vi len), (14, vi k), (15, .slice a (nextL (mkG N L U) d' v).length (nextL (mkG N L U) d' v).length), (16, vi tt)], todo := pt Try.prog fLaw10SpfWalk [1, 1, 1, 1, 1, 1, 1, 1, 0, 1, 0, 0, 1, 0, 0, 1, 1, 1, 1, 1, 1, 0] } m2 n1 Q := by
        intro tt
        refine W_of1 mixed (cfg := xcfg) (fuel := 400) ?_
        rw [xLaw10SpfWalkk1]
        have bp := pickM_bnd (x := tt) (n := ((nextL (mkG N L U) d' v).length : Int)) (by omega)
        refine pick_c (by omega) (by omega) ⟨_, rfl, Later.mk ?_⟩
        generalize pickM tt ((nextL (mkG N L U) d' v).length : Int) = pk at *
        have hpk : pk.toNat < (nextL (mkG N L U) d' v).length := by omega
        have hmem : (nextL (mkG N L U) d' v)[pk.toNat] ∈ nextL (mkG N L U) d' v := List.getElem_mem hpk
        have hgd : gd (nextL (mkG N L U) d' v) pk.toNat = (nextL (mkG N L U) d' v)[pk.toNat] := (gd_get hpk).symm
        refine ldx ow2 bp.1 (by omega) ?_
        rw [hgd]
        obtain ⟨i, w, c, ei, s, hw0, hw1⟩ := next_st.1 hmem
        rw [ei]
        have sb := s.bnd hg
        obtain ⟨hi, hui, hup, hcc, hot⟩ := st_lists hul s
        obtain ⟨b, o, s', e, q1, q2, q3, q4, q5, q6, q7⟩ := lnk ns3.sl hi
        have gx := ns3.get
        refine condDF (by omega) ⟨isC_of gx, _, _, _, rd_of gx rfl, condDF (by omega) ⟨isC_of gx, _, _, _, rd_of gx rfl, ns3.su.ldb hui ?_⟩⟩
        rw [hup]
        rw [e] at gx
        have nxt := ih w (len + c) (k + 1) (R.set v true) m2 (n1 + 17) (by omega) ⟨by simp [-Bool.exists_bool, I.rl], sb.2.1, .inr hw0, by rw [I.len]; omega, by have := I.k0; omega, by have := I.kb; omega, fun z hz => by
          rw [gb_set (by omega)] at hz
          split at hz
          · rename_i e; subst e; omega
          · have := I.seen z hz; omega⟩ (hle2.up (by omega)) (by rw [rl1]; exact p6.same (by omega) fun _ _ _ _ => rfl)
        rw [rl1] at nxt
        have hk := I.kb
        have hk0 := I.k0
        have hvf := hd.val f.toNat
        have hln := I.len
        have hlv := hd.lo v
        have hlf := hd.lo f.toNat
        have w1 : IntKind.i64.wrap (len + L[i].c) = len + c := by rw [hcc]; exact wrap_id (by omega) (by omega)
        have w2 : IntKind.i64.wrap (k + 1) = k + 1 := wrap_id (by omega) (by omega)
        have bnd : 0 ≤ (i : Int) ∧ (i : Int) < (L.length : Int) ∧ liveAt m2 b = true ∧ (s' ≠ none → 0 < lc) := ⟨by omega, by omega, q1, q2⟩
        refine condF rfl ⟨isC_of gx, _, _, _, rd_of gx rfl, bnd, q3, _, q5, ?_⟩
        rcases other_of hot with ⟨o1, o2, o3⟩ | ⟨o1, o2, o3⟩
        · refine condNF o1 ⟨isC_of gx, _, _, _, rd_of gx rfl, bnd, _, _, _, q4, _, _, _, lother_c (l := L[i]) ⟨rfl, rfl, rfl⟩, Later.mk ⟨isC_of gx, _, _, _, rd_of gx rfl, bnd, q3, _, q7, rfl, ⟨_, q7, rfl⟩, ⟨q3, rfl⟩, ⟨bnd, rfl⟩, ⟨_, _, _, rd_of gx rfl, rfl⟩, ⟨isC_of gx, rfl⟩, Nat.le_refl _, ?_⟩⟩
          rw [o3, w1, w2]; exact nxt
        · refine condNT o1 ⟨isC_of gx, _, _, _, rd_of gx rfl, bnd, q3, _, q6, condNF o2 ⟨isC_of gx, _, _, _, rd_of gx rfl, bnd, _, _, _, q4, _, _, _, lother_c (l := L[i]) ⟨rfl, rfl, rfl⟩, Later.mk ⟨isC_of gx, _, _, _, rd_of gx rfl, bnd, q3, _, q7, rfl, ⟨_, q7, rfl⟩, ⟨q3, rfl⟩, ⟨bnd, rfl⟩, ⟨_, _, _, rd_of gx rfl, rfl⟩, ⟨isC_of gx, rfl⟩, Nat.le_refl _, ?_⟩⟩⟩
          rw [o3, w1, w2]; exact nxt
      refine ⟨⟨by omega, by omega, p3, p4⟩, m2, p5, condD (fun htl => ⟨by omega, ?_⟩) fun _ => choose k⟩
      have b1 := Int.tmod_lt_of_pos k (show (0 : Int) < (T.length : Int) by omega)
      have b2 := Int.tmod_nonneg (T.length : Int) I.k0
      exact ldx (sT.le hle2) b2 b1 (choose _)
theorem walk_law {f t : Int} {T : List Int} {ta : Option Addr} {tc : Nat} (hT : T.length ≤ 9223372036854775807) (sT : Sl m n ta tc (T.map vi)) (hL : Sl m n la lc (L.flatMap encL)) (hU : Sl m n ua uc (U.map Value.bool)) {Q : Value → Mem → Nat → Prop} (hq : ∀ m' n', Q (.bool true) m' n') :
    Wc Try.prog fLaw10SpfWalk [netV N la L.length lc ua U.length uc, vi f, vi t, .slice ta T.length tc] m n Q := by
  refine Wc_of mixed (cfg := xcfg) (fuel := 400) ?_
  rw [xLaw10SpfWalk]
  refine memLet.mk fun m0 e => ?_
  have ns0 : NS m0 (n + 1) n N L U la ua L.length lc U.length uc := by rw [e]; exact ns_new hL hU
  have sT0 : Sl m0 (n + 1) ta tc (T.map vi) := by rw [e]; exact sT.le Le.new
  clear e
  refine known_c ⟨_, rfl, Later.mk ⟨_, _, _, _, _, _, _, rds_of ns0.get, lvalid_c ns0.hl ns0.sl ⟨_, rfl, Later.mk ?_⟩⟩⟩
  refine condB (fun _ => hq _ _) fun hv => ?_
  have hv : lvalid N L U.length = true := by simpa [-Bool.exists_bool] using hv
  obtain ⟨hg, hl60, hN1, hN2, hul, hgN, hgX⟩ := lvalid_ok hv
  have ga := ns0.get
  have ba := pickM_bnd (x := f) (n := N) (by omega)
  have bb := pickM_bnd (x := t) (n := N) (by omega)
  refine ⟨isC_of ga, _, rd_of ga rfl, _, _, _, pick_c (by omega) (by omega) ⟨rfl, rfl, rfl⟩, Later.mk ⟨isC_of ga, _, rd_of ga rfl, _, _, _, pick_c (by omega) (by omega) ⟨rfl, rfl, rfl⟩, Later.mk ⟨⟨_, rd_of ga rfl, rfl⟩, ⟨isC_of ga, rfl⟩, Nat.le_refl _, Nat.le_refl _, ?_⟩⟩⟩
  generalize pickM f N = f' at *
  generalize pickM t N = t' at *
  have ns1 : NS m0 (n + 1 + 10) n N L U la ua L.length lc U.length uc := ns0.le (Le.refl.up (by omega))
  obtain ⟨m1, n1, pa, d, hd, hdl, ow1, le1, _, run1⟩ := ns1.vdist hv bb.1 bb.2
  have ns2 := ns1.le le1
  have g1 := ns2.get
  refine ⟨_, _, _, _, _, _, _, rds_of ga, run1 _ ⟨_, _, _, rfl, Later.mk ⟨isC_of g1, _, rd_of g1 rfl, condNF hdl ⟨isC_of g1, _, rd_of g1 rfl, ⟨by omega, by omega, by omega⟩, memLet.mk fun m2 e => ?_⟩⟩⟩⟩
  have hrl : (List.replicate N.toNat false).length = N.toNat := by simp [-Bool.exists_bool]
  have hfl : (List.replicate N.toNat [Value.bool false]).flatten = (List.replicate N.toNat false).map Value.bool := by simp [-Bool.exists_bool]
  rw [hfl] at e
  have le2 : Le m1 n1 m2 (n1 + 1) := by rw [e]; exact Le.new
  have ow2 : Ow m2 n1 (n1 + 1) tBool 1 (some ⟨n1, 0, none⟩) (List.replicate N.toNat false).length (List.replicate N.toNat false).length ((List.replicate N.toNat false).map Value.bool) := by rw [e]; exact Ow.new (Nat.le_refl _) (by simp [-Bool.exists_bool])
  have nog : ∀ w, gb (List.replicate N.toNat false) w ≠ true := fun w h => by
    unfold gb at h
    rw [List.getElem?_replicate] at h
    split at h <;> simp [-Bool.exists_bool] at h
  have key := walk_loop (ra := some ⟨n1, 0, none⟩) hT ns2 hv ba.1 ba.2 bb.1 bb.2 hd ow1.sl ((sT0.same (n' := n + 1 + 10) (by omega) fun _ _ _ _ => rfl).le le1) hq ((gd d f'.toNat).toNat + 1) f'.toNat 0 0 (List.replicate N.toNat false) m2 (n1 + 1) (by omega)
    ⟨by rw [hgN]; simp, by rw [hgN]; omega, .inl rfl, by omega, by omega, by omega, fun w h => (nog w h).elim⟩ le2 ow2
  rw [hrl, show ((f'.toNat : Nat) : Int) = f' by omega] at key
  exact key
end
end Go.Proofs.Ytenpbdanffacjaa

namespace Go.Proofs.Ytenpbdanffacjaa
open Go Go.Ab Spf
theorem pathsN_pos {g : G} (hg : g.Ok) {t : Nat} {d : List Int} (hd : IsDist g t d) : ∀ (k v : Nat), gd d v = k → 1 ≤ pathsN g d t v := by
  intro k
  induction k using Nat.strongRecOn with
  | _ k ih =>
    intro v hv
    rw [pathsN_eq hg]
    by_cases e : v = t
    · rw [if_pos e]; omega
    · rw [if_neg e]
      have hne := (next_ne hg hd e).2 (by omega)
      obtain ⟨x, r, hx⟩ := List.exists_cons_of_ne_nil hne
      obtain ⟨i, w, c, rfl, s, h1, h2⟩ := next_st.1 (show x ∈ nextL g d v by rw [hx]; simp [-Bool.exists_bool])
      have := s.bnd hg
      have hw := ih (gd d w).toNat (by omega) w (by omega)
      have hb := pathsN_bnd (g := g) (d := d) (t := t) (v := w)
      rw [hx, List.foldl_cons, s.otherAt]
      have ha : 1 ≤ addM 0 (pathsN g d t w) ∧ addM 0 (pathsN g d t w) ≤ 1073741824 := by unfold addM; split <;> omega
      have := (fold_bnd (f := fun i => pathsN g d t (otherAt g i v)) r (addM 0 (pathsN g d t w)) (by omega) (by omega) fun y _ => pathsN_bnd.1).2.2
      omega
section
variable {m m' : Mem} {n n' : Nat} {N : Int} {L : List Lk} {U : List Bool} {la ua : Option Addr} {ll lc ul uc : Nat}
theorem next_asc {g : G} {d : List Int} {v i : Nat} (hi : i + 1 < (nextL g d v).length) : (nextL g d v)[i] < (nextL g d v)[i + 1] :=
  List.pairwise_iff_getElem.1 (nextGo_asc (d := d) (f := v) g.X 0).1 i (i + 1) (by unfold nextL at hi; omega) hi (by omega)
theorem counts_loop {m0 : Mem} {n0 x : Nat} {f t : Int} {d : List Int} {pa : Option Addr} {pc : Nat} (ns : NS m0 n0 x N L U la ua L.length lc U.length uc) (hv : lvalid N L U.length = true) (hf0 : 0 ≤ f) (hf : f < N) (ht0 : 0 ≤ t) (ht : t < N)
    (hd : IsDist (mkG N L U) t.toNat d) (sl : Sl m0 n0 pa pc ((nextL (mkG N L U) d f.toNat).map vi)) {Q : Value → Mem → Nat → Prop} (hq : ∀ m' n', Q (.bool true) m' n') :
    ∀ (l pre : List Int) (sum : Int) (m : Mem) (n : Nat), nextL (mkG N L U) d f.toNat = pre ++ l → 0 ≤ sum → sum ≤ 1073741824 → (f ≠ t → l.foldl (fun acc i => addM acc (pathsN (mkG N L U) d t.toNat (otherAt (mkG N L U) i f.toNat))) sum = pathsN (mkG N L U) d t.toNat f.toNat) → Le m0 n0 m n →
      W Try.prog { fn := fLaw10SpfCounts, nt := 101, slots := [(1, vi f), (2, vi t), (3, pp x), (7, .bool true), (8, .slice pa (nextL (mkG N L U) d f.toNat).length pc), (9, vi sum), (10, .int .i64 pre.length)], todo := pt Try.prog fLaw10SpfCounts [1, 1, 1, 1, 1, 1, 0, 1, 0, 0] } m n Q := by
  obtain ⟨hg, hl60, hN1, hN2, hul, hgN, hgX⟩ := lvalid_ok hv
  have hnl := next_len (g := mkG N L U) hg (d := d) (v := f.toNat)
  intro l
  induction l with
  | nil =>
    intro pre sum m n hp h0 h1 hfold hle
    have ns1 := ns.le hle
    obtain ⟨m1, n1, d', hd', le1, _, run1⟩ := ns1.vpaths hv hf0 hf ht0 ht
    obtain rfl := hd'.uniq hg hd
    refine W_of mixed (cfg := xcfg) (fuel := 400) ?_
    rw [xLaw10SpfCountsk0]
    refine condDF (by simp [-Bool.exists_bool, hp]) (condE (fun e => condT rfl ⟨_, _, _, _, _, _, _, rds_of ns1.get, run1 _ ⟨_, rfl, Later.mk ?_⟩⟩) fun e => condT rfl ⟨_, _, _, _, _, _, _, rds_of ns1.get, run1 _ ⟨_, rfl, Later.mk ?_⟩⟩)
    · have : (pathsN (mkG N L U) d' t.toNat f.toNat == 1) = true := by rw [beq_iff_eq, pathsN_eq hg, if_pos (by rw [e])]
      rw [this]; exact hq _ _
    · have h2 := hfold e
      simp only [List.foldl_nil] at h2
      have : (pathsN (mkG N L U) d' t.toNat f.toNat == sum) = true := by rw [beq_iff_eq, h2]
      rw [this]; exact hq _ _
  | cons y l ih =>
    intro pre sum m n hp h0 h1 hfold hle
    have hlt : pre.length < (nextL (mkG N L U) d f.toNat).length := by rw [hp]; simp [-Bool.exists_bool]
    have hy : (nextL (mkG N L U) d f.toNat)[pre.length] = y := by simp [-Bool.exists_bool, hp]
    obtain ⟨i, w, c, rfl, s, hw0, hw1⟩ := next_st.1 (show y ∈ nextL (mkG N L U) d f.toNat by rw [hp]; simp [-Bool.exists_bool])
    have sb := s.bnd hg
    rw [hgN] at sb
    obtain ⟨hi, hui, hup, hcc, hot⟩ := st_lists hul s
    have ns0 : NS m (n + 31 + 14) x N L U la ua L.length lc U.length uc := ns.le (hle.up (by omega))
    obtain ⟨m1, n1, d', hd', le1, _, run1⟩ := ns0.vpaths hv (f := (w : Int)) (t := t) (by omega) (by omega) ht0 ht
    obtain rfl := hd'.uniq hg hd
    have l1 := le1.le
    have gx := ns0.get
    have sl1 := sl.le hle
    have ldn : ∀ {K : Int → Prop}, K (i : Int) → elimA pa False fun b o s => (0 ≤ (pre.length : Int) ∧ (pre.length : Int) < ((nextL (mkG N L U) d' f.toNat).length : Int) ∧ liveAt m b = true ∧ (s ≠ none → 0 < pc)) ∧ ∃ x : Int, rd m b (offOf o s + (pre.length : Int).toNat * 1) = some (vi x) ∧ K x := fun {K} hk => sl1.ldi hlt (by rw [hy]; exact hk)
    have hb := pathsN_bnd (g := mkG N L U) (d := d') (t := t.toNat) (v := w)
    have hpp := pathsN_pos hg hd (gd d' w).toNat w (by omega)
    rw [show ((w : Int).toNat) = w by omega] at run1
    have hwr : IntKind.i64.wrap (sum + pathsN (mkG N L U) d' t.toNat w) = sum + pathsN (mkG N L U) d' t.toNat w := wrap_id (by omega) (by omega)
    have hlen : (((pre ++ [(i : Int)]).length : Nat) : Int) = ((pre.length + 1 : Nat) : Int) := by simp [-Bool.exists_bool]
    have nxt := ih (pre ++ [(i : Int)]) (addM sum (pathsN (mkG N L U) d' t.toNat w)) m1 n1 (by simp [-Bool.exists_bool, hp]) (by unfold addM; split <;> omega) (by unfold addM; split <;> omega) (fun e => by have := hfold e; simp only [List.foldl_cons, s.otherAt] at this; exact this) ((hle.up (by omega)).trans le1)
    rw [hlen, ← wrapN (k := pre.length) (by omega)] at nxt
    have tail : ∃ x58 p59 k60 k61 p62 k63 k64, rds m x 0 3 = some [vi x58, .slice p59 k60 k61, .slice p62 k63 k64] ∧ isC m x = true ∧ ∃ p65 k66 k67, rd m x 1 = some (.slice p65 k66 k67) ∧ elimA pa False fun k68 k69 p70 => (0 ≤ (pre.length : Int) ∧ (pre.length : Int) < ((nextL (mkG N L U) d' f.toNat).length : Int) ∧ liveAt m k68 = true ∧ (p70 ≠ none → 0 < pc)) ∧ ∃ x71 : Int, rd m k68 (offOf k69 p70 + (pre.length : Int).toNat * 1) = some (vi x71) ∧
        elimA p65 False fun k72 k73 p74 => (0 ≤ x71 ∧ x71 < (k66 : Int) ∧ liveAt m k72 = true ∧ (p74 ≠ none → 0 < k67)) ∧ ∃ x75 x76 x77 : Int, rds m k72 (offOf k73 p74 + x71.toNat * 3) 3 = some [vi x75, vi x76, vi x77] ∧ ∃ x78 m79 k80, (Wc Try.prog fLaw10other [.agg ⟨[vi x75, vi x76, vi x77]⟩, vi f] m (n + 31 + 14) fun v81 m82 k83 => v81 = vi x78 ∧ m82 = m79 ∧ k83 = k80) ∧
          Later (∃ x84 m85 k86, (Wc Try.prog fLaw10Netpaths [.agg ⟨[vi x58, .slice p59 k60 k61, .slice p62 k63 k64]⟩, vi x78, vi t] m79 k80 fun v87 m88 k89 => v87 = vi x84 ∧ m88 = m85 ∧ k89 = k86) ∧ Later ((∃ x90 p91 k92 k93 p94 k95 k96, rds m79 x 0 3 = some [vi x90, .slice p91 k92 k93, .slice p94 k95 k96] ∧ Value.agg ⟨[vi x90, .slice p91 k92 k93, .slice p94 k95 k96]⟩ = .agg ⟨[vi x58, .slice p59 k60 k61, .slice p62 k63 k64]⟩) ∧ n + 31 + 14 ≤ k80 ∧ n + 31 + 14 ≤ k86 ∧
            bif decide (x84 < 1) then Q (.bool false) m85 k86 else bif decide (x84 > 1073741824) then Q (.bool false) m85 k86 else W Try.prog { fn := fLaw10SpfCounts, nt := 101, slots := [(1, vi f), (2, vi t), (3, pp x), (7, .bool true), (8, .slice pa (nextL (mkG N L U) d' f.toNat).length pc), (9, vi (if IntKind.i64.wrap (sum + x84) < 1073741824 then IntKind.i64.wrap (sum + x84) else 1073741824)), (10, vi (IntKind.i64.wrap ((pre.length : Int) + 1)))], todo := pt Try.prog fLaw10SpfCounts [1, 1, 1, 1, 1, 1, 0, 1, 0, 0] } m85 k86 Q)) := by
      refine ⟨_, _, _, _, _, _, _, rds_of gx, isC_of gx, _, _, _, rd_of gx rfl, ldn ?_⟩
      obtain ⟨b, o, s', e, q1, q2, q3, q4, q5, q6, q7⟩ := lnk ns0.sl hi
      have gx' := gx
      rcases other_of hot with ⟨o1, o2, o3⟩ | ⟨o1, o2, o3⟩ <;>
      · have hot' : (if L[i].a = f then L[i].b else L[i].a) = (w : Int) := by rw [show ((f.toNat : Nat) : Int) = f by omega] at o3; exact o3
        have fin := run1 (fun v87 m88 k89 => v87 = vi (pathsN (mkG N L U) d' t.toNat w) ∧ m88 = m1 ∧ k89 = n1) ⟨rfl, rfl, rfl⟩
        subst e
        refine ⟨⟨by omega, by omega, q1, q2⟩, _, _, _, q4, (w : Int), m, n + 31 + 14, lother_c (l := L[i]) ⟨by rw [hot'], rfl, rfl⟩, Later.mk ⟨_, m1, n1, fin, Later.mk ⟨⟨_, _, _, _, _, _, _, rds_of gx, rfl⟩, Nat.le_refl _, by omega, condDF (by omega) (condDF (by omega) ?_)⟩⟩⟩
        rw [hwr]
        exact nxt
    refine W_of mixed (cfg := xcfg) (fuel := 400) ?_
    rw [xLaw10SpfCountsk0]
    refine condDT (by omega) (ldn (condDF (by omega) (ldn ⟨isC_of gx, _, _, _, rd_of gx rfl, condDF (by omega) (condD (fun hpos => ldn ?_) fun _ => tail)⟩)))
    have hp1 : IntKind.i64.wrap ((pre.length : Int) - 1) = ((pre.length - 1 : Nat) : Int) := wrapP (by omega) (by omega)
    rw [hp1]
    refine sl1.ldi (i := pre.length - 1) (by omega) (condDF ?_ tail)
    have := next_asc (g := mkG N L U) (d := d') (v := f.toNat) (i := pre.length - 1) (by omega)
    simp only [show pre.length - 1 + 1 = pre.length by omega, hy] at this
    omega
theorem counts_law {f t : Int} (hL : Sl m n la lc (L.flatMap encL)) (hU : Sl m n ua uc (U.map Value.bool)) {Q : Value → Mem → Nat → Prop} (hq : ∀ m' n', Q (.bool true) m' n') :
    Wc Try.prog fLaw10SpfCounts [netV N la L.length lc ua U.length uc, vi f, vi t] m n Q := by
  refine Wc_of mixed (cfg := xcfg) (fuel := 400) ?_
  rw [xLaw10SpfCounts]
  refine memLet.mk fun m0 e => ?_
  have ns0 : NS m0 (n + 1) n N L U la ua L.length lc U.length uc := by rw [e]; exact ns_new hL hU
  clear e
  refine known_c ⟨_, rfl, Later.mk ⟨_, _, _, _, _, _, _, rds_of ns0.get, lvalid_c ns0.hl ns0.sl ⟨_, rfl, Later.mk ?_⟩⟩⟩
  refine condB (fun _ => hq _ _) fun hv => ?_
  have hv : lvalid N L U.length = true := by simpa [-Bool.exists_bool] using hv
  obtain ⟨hg, hl60, hN1, hN2, hul, hgN, hgX⟩ := lvalid_ok hv
  have ga := ns0.get
  have ba := pickM_bnd (x := f) (n := N) (by omega)
  have bb := pickM_bnd (x := t) (n := N) (by omega)
  refine ⟨isC_of ga, _, rd_of ga rfl, _, _, _, pick_c (by omega) (by omega) ⟨rfl, rfl, rfl⟩, Later.mk ⟨isC_of ga, _, rd_of ga rfl, _, _, _, pick_c (by omega) (by omega) ⟨rfl, rfl, rfl⟩, Later.mk ⟨⟨_, rd_of ga rfl, rfl⟩, ⟨isC_of ga, rfl⟩, Nat.le_refl _, Nat.le_refl _, ?_⟩⟩⟩
  generalize pickM f N = f' at *
  generalize pickM t N = t' at *
  have ns1 : NS m0 (n + 1 + 10) n N L U la ua L.length lc U.length uc := ns0.le (Le.refl.up (by omega))
  obtain ⟨m1, n1, pa, d, hd, ow1, le1, _, run1⟩ := ns1.vnext hv ba.1 ba.2 bb.1 bb.2
  refine ⟨_, _, _, _, _, _, _, rds_of ga, run1 _ ⟨_, _, _, rfl, Later.mk ?_⟩⟩
  exact counts_loop (ns1.le le1) hv ba.1 ba.2 bb.1 bb.2 hd ow1.sl hq (nextL (mkG N L U) d f'.toNat) [] 0 m1 n1 rfl (by omega) (by omega) (fun e => by conv => rhs; rw [pathsN_eq hg, if_neg (by omega)]) Le.refl
end
end Go.Proofs.Ytenpbdanffacjaa

/- A link taken down, plain. -/
namespace Spf
/-- y is g without the link. -/
structure Cut (g y : G) (k : Nat) : Prop where
  n : y.N = g.N
  x : ∀ i, y.X[i]? = if i = k then (g.X[i]?).map (fun p => (p.1, false)) else g.X[i]?
theorem Cut.ok {g y : G} {k : Nat} (h : Cut g y k) (hg : g.Ok) : y.Ok := by
  have hlen : y.X.length = g.X.length := by
    have key : ∀ i, i < y.X.length ↔ i < g.X.length := fun i => by
      have := h.x i
      constructor
      · intro hi
        rw [List.getElem?_eq_getElem hi] at this
        rcases Nat.lt_or_ge i g.X.length with h1 | h1
        · exact h1
        · rw [List.getElem?_eq_none h1] at this
          split at this <;> simp [-Bool.exists_bool] at this
      · intro hi
        rw [List.getElem?_eq_getElem hi] at this
        rcases Nat.lt_or_ge i y.X.length with h1 | h1
        · exact h1
        · rw [List.getElem?_eq_none h1] at this
          split at this <;> simp [-Bool.exists_bool] at this
    have h1 := key y.X.length
    have h2 := key g.X.length
    omega
  refine ⟨by rw [h.n]; exact hg.pos, by rw [h.n]; exact hg.big, by rw [hlen]; exact hg.many, fun p hp => ?_⟩
  obtain ⟨i, hi⟩ := List.mem_iff_getElem?.1 hp
  rw [h.x i] at hi
  rw [h.n]
  split at hi
  · obtain ⟨q, hq, rfl⟩ := Option.map_eq_some_iff.1 hi
    exact hg.lk q (List.mem_of_getElem? hq)
  · exact hg.lk p (List.mem_of_getElem? hi)
theorem Cut.st {g y : G} {k : Nat} (h : Cut g y k) {i u v : Nat} {c : Int} : St y i u v c ↔ St g i u v c ∧ i ≠ k := by
  constructor
  · rintro ⟨l, h1, h2, h3⟩
    rw [h.x i] at h1
    split at h1
    · obtain ⟨q, _, hq⟩ := Option.map_eq_some_iff.1 h1
      simp [-Bool.exists_bool] at hq
    · rename_i hik; exact ⟨⟨l, h1, h2, h3⟩, hik⟩
  · rintro ⟨⟨l, h1, h2, h3⟩, hik⟩
    exact ⟨l, by rw [h.x i, if_neg hik]; exact h1, h2, h3⟩
theorem Cut.wk {g y : G} {k : Nat} (h : Cut g y k) {u v : Nat} {j : Int} (w : Wk y u v j) : Wk g u v j := by
  induction w with
  | nil => exact .nil
  | snoc _ s ih => exact ih.snoc (h.st.1 s).1
/-- A walk goes round the link, or over it. -/
theorem Cut.split {g y : G} {k : Nat} (h : Cut g y k) {u v : Nat} {j : Int} (w : Wk g u v j) : Wk y u v j ∨ ∃ a b c k1 k2, St g k a b c ∧ Wk g u a k1 ∧ Wk g b v k2 ∧ j = k1 + c + k2 := by
  induction w with
  | nil => exact .inl .nil
  | snoc w s ih =>
    rename_i x y' k' c i
    rcases ih with h1 | ⟨a, b, c', k1, k2, h1, h2, h3, h4⟩
    · by_cases hik : i = k
      · subst hik
        exact .inr ⟨x, y', c, k', 0, s, w, .nil, by omega⟩
      · exact .inl (h1.snoc (h.st.2 ⟨s, hik⟩))
    · exact .inr ⟨a, b, c', k1, k2 + c, h1, h2, h3.snoc s, by omega⟩
theorem Cut.far {g y : G} {k : Nat} (hg : g.Ok) (h : Cut g y k) {f : Nat} {d e : List Int} (hd : IsDist g f d) (he : IsDist y f e) {v : Nat} (hv : 0 ≤ gd e v) : 0 ≤ gd d v ∧ gd d v ≤ gd e v :=
  hd.le (h.wk (he.wk (h.ok hg) hv))
/-- The link is on no shortest path from v to t. -/
def Off (g : G) (k t : Nat) (gg : List Int) (v : Nat) : Prop := 0 ≤ gd gg v → ∀ a b c k1 k2, St g k a b c → Wk g v a k1 → Wk g b t k2 → gd gg v < k1 + c + k2
theorem Off.same {g y : G} {k t : Nat} (hg : g.Ok) (h : Cut g y k) {gg gy : List Int} (hgg : IsDist g t gg) (hgy : IsDist y t gy) {v : Nat} (ho : Off g k t gg v) : gd gy v = gd gg v := by
  have h1 := hgg.lo v
  have h2 := hgy.lo v
  by_cases h3 : 0 ≤ gd gg v
  · have w := (hgg.wk hg h3).symm hg
    rcases h.split w with w' | ⟨a, b, c, k1, k2, s, w1, w2, e⟩
    · have h4 := hgy.le (w'.symm (h.ok hg))
      have h5 := h.far hg hgg hgy h4.1
      omega
    · have := ho h3 a b c k1 k2 s w1 w2; omega
  · by_cases h4 : 0 ≤ gd gy v
    · have := h.far hg hgg hgy h4; omega
    · omega
theorem Off.next {g : G} {k t : Nat} (hg : g.Ok) {gg : List Int} (hgg : IsDist g t gg) {v w i : Nat} {c : Int} (ho : Off g k t gg v) (s : St g i v w c) (h0 : 0 ≤ gd gg w) (h1 : gd gg w + c = gd gg v) : Off g k t gg w ∧ i ≠ k := by
  have hc := s.bnd hg
  refine ⟨fun _ a b c' k1 k2 s' w1 w2 => ?_, ?_⟩
  · have := ho (by omega) a b c' (c + k1) k2 s' (.cons s w1) w2
    omega
  · rintro rfl
    have := ho (by omega) v w c 0 (gd gg w) s .nil ((hgg.wk hg h0).symm hg)
    omega
theorem nextGo_congr {d d' : List Int} {f : Nat} : ∀ {X X' : List (Lk × Bool)} {i : Nat}, X.length = X'.length → (∀ (j : Nat) (l : Lk) (u : Bool) (l' : Lk) (u' : Bool), X[j]? = some (l, u) → X'[j]? = some (l', u') → onP d f l u = onP d' f l' u') → nextGo d f i X = nextGo d' f i X'
  | [], [], _, _, _ => rfl
  | [], _ :: _, _, h, _ => by simp [-Bool.exists_bool] at h
  | _ :: _, [], _, h, _ => by simp [-Bool.exists_bool] at h
  | (l, u) :: X, (l', u') :: X', i, h, hh => by
    have h0 := hh 0 l u l' u' rfl rfl
    have ht := nextGo_congr (d := d) (d' := d') (f := f) (X := X) (X' := X') (i := i + 1) (by simpa [-Bool.exists_bool] using h) fun j l u l' u' h1 h2 => hh (j + 1) l u l' u' (by simpa [-Bool.exists_bool] using h1) (by simpa [-Bool.exists_bool] using h2)
    simp only [nextGo, h0, ht]
theorem Cut.len {g y : G} {k : Nat} (h : Cut g y k) : g.X.length = y.X.length := by
  have key : ∀ i, i < y.X.length ↔ i < g.X.length := fun i => by
    have := h.x i
    constructor
    · intro hi
      rw [List.getElem?_eq_getElem hi] at this
      rcases Nat.lt_or_ge i g.X.length with h1 | h1
      · exact h1
      · rw [List.getElem?_eq_none h1] at this
        split at this <;> simp [-Bool.exists_bool] at this
    · intro hi
      rw [List.getElem?_eq_getElem hi] at this
      rcases Nat.lt_or_ge i y.X.length with h1 | h1
      · exact h1
      · rw [List.getElem?_eq_none h1] at this
        split at this <;> simp [-Bool.exists_bool] at this
  have h1 := key y.X.length
  have h2 := key g.X.length
  omega
theorem Off.nexts {g y : G} {k t : Nat} (hg : g.Ok) (h : Cut g y k) {gg gy : List Int} (hgg : IsDist g t gg) (hgy : IsDist y t gy) {v : Nat} (ho : Off g k t gg v) : nextL g gg v = nextL y gy v := by
  unfold nextL
  refine nextGo_congr h.len fun j l u l' u' h1 h2 => ?_
  have hsame := ho.same hg h hgg hgy
  rw [h.x j, h1] at h2
  by_cases hjk : j = k
  · rw [if_pos hjk] at h2
    simp only [Option.map_some, Option.some.injEq, Prod.mk.injEq] at h2
    obtain ⟨rfl, rfl⟩ := h2
    cases hon : onP gg v l u with
    | false => simp [-Bool.exists_bool, onP]
    | true =>
      simp only [onP, Bool.and_eq_true, decide_eq_true_eq] at hon
      obtain ⟨rfl, g1, g2, g3⟩ := hon
      have s : St g j v (other l v).toNat l.c := ⟨l, h1, by omega, rfl⟩
      exact ((ho.next hg hgg s g2 g3).2 hjk).elim
  · rw [if_neg hjk] at h2
    simp only [Option.some.injEq, Prod.mk.injEq] at h2
    obtain ⟨rfl, rfl⟩ := h2
    cases u with
    | false => simp [-Bool.exists_bool, onP]
    | true =>
      by_cases hn : 0 ≤ other l v
      · have s : St g j v (other l v).toNat l.c := ⟨l, h1, by omega, rfl⟩
        have hb := s.bnd hg
        have sy := h.st.2 ⟨s, hjk⟩
        have iff : (0 ≤ gd gg (other l v).toNat ∧ gd gg (other l v).toNat + l.c = gd gg v) ↔ (0 ≤ gd gy (other l v).toNat ∧ gd gy (other l v).toNat + l.c = gd gy v) := by
          constructor
          · rintro ⟨g2, g3⟩
            have := (ho.next hg hgg s g2 g3).1.same hg h hgg hgy
            omega
          · rintro ⟨g2, g3⟩
            have f1 := h.far hg hgg hgy g2
            have f2 := hgg.edge _ _ _ _ (s.symm hg) f1.1
            omega
        simp only [onP, Bool.true_and]
        rw [decide_eq_true hn, Bool.true_and, Bool.true_and, ← Bool.decide_and, ← Bool.decide_and]
        exact decide_eq_decide.2 iff
      · simp only [onP]
        rw [decide_eq_false hn]; simp [-Bool.exists_bool]
theorem Off.paths {g y : G} {k t : Nat} (hg : g.Ok) (h : Cut g y k) {gg gy : List Int} (hgg : IsDist g t gg) (hgy : IsDist y t gy) : ∀ (j v : Nat), gd gg v < j → Off g k t gg v → pathsN g gg t v = pathsN y gy t v := by
  have step : ∀ (j : Nat), (∀ v, 0 ≤ gd gg v → gd gg v < j → Off g k t gg v → pathsN g gg t v = pathsN y gy t v) → ∀ v, gd gg v < (j : Int) + 1 → Off g k t gg v → pathsN g gg t v = pathsN y gy t v := by
    intro j ih v hv ho
    rw [pathsN_eq hg, pathsN_eq (h.ok hg), ← ho.nexts hg h hgg hgy]
    split
    · rfl
    · refine foldl_congr _ _ fun b x hx => ?_
      obtain ⟨i, w, c, rfl, s, h0, h1⟩ := next_st.1 hx
      have hb := s.bnd hg
      obtain ⟨o1, o2⟩ := ho.next hg hgg s h0 h1
      rw [s.otherAt, (h.st.2 ⟨s, o2⟩).otherAt, ih w h0 (by omega) o1]
  intro j
  induction j with
  | zero => exact fun v hv ho => step 0 (fun v h0 h1 => by omega) v (by omega) ho
  | succ j ih => exact fun v hv ho => step j (fun v _ h1 h2 => ih v h1 h2) v (by omega) ho
/-- Not on a shortest path, as the statement says it. -/
theorem off_of {g : G} (hg : g.Ok) {k f t : Nat} {d gg : List Int} (hd : IsDist g f d) (hgg : IsDist g t gg) {l : Lk} (hl : g.X[k]? = some (l, true))
    (hon : ¬ (0 ≤ gd d t ∧ 0 ≤ gd d l.a.toNat ∧ (gd d l.a.toNat + l.c + gd gg l.b.toNat = gd d t ∨ gd d l.b.toNat + l.c + gd gg l.a.toNat = gd d t))) : Off g k t gg f := by
  intro h0 a b c k1 k2 s w1 w2
  have hs := hd.sym hg hgg
  have h1 := hd.le w1
  have h2 := hgg.le (w2.symm hg)
  have e1 := hd.edge _ _ _ _ s h1.1
  have t1 := hd.tri hg (IsDist.mk hgg.len hgg.inb hgg.lo hgg.src hgg.edge hgg.back hgg.val) (by omega) h2.1
  have t2 := hd.le ((w1.snoc s).trans w2)
  have hb := s.bnd hg
  obtain ⟨l', s1, s2, s3⟩ := s
  rw [hl] at s1
  cases s1
  have hlk := hg.at hl
  -- the walk is no shorter than by the distances
  have lo : gd d t ≤ gd d a + c + gd gg b := by
    have w3 : Wk g f t (gd d a + c + gd gg b) := ((hd.wk hg h1.1).snoc ⟨l, hl, s2, s3⟩).trans ((hgg.wk hg h2.1).symm hg)
    exact (hd.le w3).2
  subst s3
  have sAB : St g k l.a.toNat l.b.toNat l.c := ⟨l, hl, by rw [show ((l.a.toNat : Nat) : Int) = l.a by omega]; unfold other; rw [if_pos rfl]; omega, rfl⟩
  rcases other_cases (l := l) (n := (a : Int)) with ⟨o1, o2⟩ | ⟨_, o1, o2⟩ | ⟨_, _, o2⟩
  · have ea : l.a.toNat = a := by omega
    have eb : l.b.toNat = b := by omega
    rw [ea, eb] at hon
    have : ¬ gd d a + l.c + gd gg b = gd d t := fun e => hon ⟨by omega, h1.1, .inl e⟩
    omega
  · have ea : l.b.toNat = a := by omega
    have eb : l.a.toNat = b := by omega
    have e2 := hd.edge _ _ _ _ (sAB.symm hg) (by rw [ea]; exact h1.1)
    rw [ea, eb] at hon
    have : ¬ gd d a + l.c + gd gg b = gd d t := fun e => hon ⟨by omega, by rw [eb] at e2; exact e2.1, .inr e⟩
    omega
  · omega
end Spf

namespace Go.Proofs.Ytenpbdanffacjaa
open Go Go.Ab Spf
section
variable {m m' : Mem} {n n' : Nat} {N : Int} {L : List Lk} {U : List Bool} {la ua : Option Addr} {ll lc ul uc : Nat}
theorem cut_of {k : Nat} (hul : U.length = L.length) : Cut (mkG N L U) (mkG N L (U.set k false)) k := by
  refine ⟨rfl, fun i => ?_⟩
  simp only [mkG]
  by_cases hi : i < L.length
  · have hu : i < U.length := by omega
    have e1 : (L.zip U)[i]? = some (L[i], U[i]) := by rw [List.getElem?_zip_eq_some]; simp [-Bool.exists_bool, hi, hu]
    have e2 : (L.zip (U.set k false))[i]? = some (L[i], (U.set k false)[i]'(by simpa [-Bool.exists_bool] using hu)) := by rw [List.getElem?_zip_eq_some]; simp [-Bool.exists_bool, hi, hu]
    rw [e1, e2]
    by_cases hik : i = k
    · subst hik; simp [-Bool.exists_bool]
    · rw [if_neg hik, List.getElem_set_ne (fun e => hik e.symm)]
  · have e1 : (L.zip U)[i]? = none := List.getElem?_eq_none (by simp; omega)
    have e2 : (L.zip (U.set k false))[i]? = none := List.getElem?_eq_none (by simp; omega)
    rw [e1, e2]; split <;> rfl
/-- What the statement compares at its end. -/
def CutH (N : Int) (L : List Lk) (U V : List Bool) (f t : Nat) (d e : List Int) : Prop :=
  gd d t = gd e t ∧ ∀ gx gy, IsDist (mkG N L U) t gx → IsDist (mkG N L V) t gy → nextL (mkG N L U) gx f = nextL (mkG N L V) gy f ∧ pathsN (mkG N L U) gx t f = pathsN (mkG N L V) gy t f

theorem cut_end {m0 : Mem} {n0 x y : Nat} {f t : Int} {V : List Bool} {va da ea : Option Addr} {vc dc ec : Nat} {d e : List Int} (ns : NS m0 n0 x N L U la ua L.length lc U.length uc) (ny : NS m0 n0 y N L V la va L.length lc V.length vc) (hv : lvalid N L U.length = true) (hw : lvalid N L V.length = true) (hf0 : 0 ≤ f) (hf : f < N) (ht0 : 0 ≤ t) (ht : t < N)
    (hdl : (d.length : Int) = N) (hel : (e.length : Int) = N) (sd : Sl m0 n0 da dc (d.map vi)) (se : Sl m0 n0 ea ec (e.map vi)) {Q : Value → Mem → Nat → Prop} (hq : ∀ m' n', Q (.bool true) m' n') (on : Bool) (hon : on = false → CutH N L U V f.toNat t.toNat d e) {m : Mem} {n : Nat} (hle : Le m0 n0 m n) :
    W Try.prog { fn := fLaw10SpfCut, nt := 220, slots := [(2, vi f), (3, vi t), (4, pp x), (9, .bool true), (10, pp y), (11, .slice da d.length dc), (12, .slice ea e.length ec), (16, .bool on)], todo := pt Try.prog fLaw10SpfCut [1, 1, 1, 1, 1, 1, 1, 1, 1, 1, 1, 0, 0] } m n Q := by
  obtain ⟨hg, hl60, hN1, hN2, hul, hgN, hgX⟩ := lvalid_ok hv
  obtain ⟨hy, _⟩ := lvalid_ok hw
  refine W_of1 mixed (cfg := xcfg) (fuel := 400) ?_
  rw [xLaw10SpfCutk1]
  cases on with
  | true => exact condT rfl (hq _ _)
  | false =>
  obtain ⟨H1, H2⟩ := hon rfl
  refine condF rfl ?_
  refine W_of1 mixed (cfg := xcfg) (fuel := 400) ?_
  rw [xLaw10SpfCutk2]
  have nx : NS m (n + 35) x N L U la ua L.length lc U.length uc := ns.le (hle.up (by omega))
  have nyy : NS m (n + 35) y N L V la va L.length lc V.length vc := ny.le (hle.up (by omega))
  obtain ⟨m1, n1, a1, gx, hgx, ow1, le1, _, run1⟩ := nx.vnext hv hf0 hf ht0 ht
  have ny1 := nyy.le le1
  have nx1 := nx.le le1
  obtain ⟨m2, n2, a2, gy, hgy, ow2, le2, _, run2⟩ := ny1.vnext hw hf0 hf ht0 ht
  have nx2 := nx1.le le2
  have ny2 := ny1.le le2
  obtain ⟨m3, n3, gx', hgx', le3, _, run3⟩ := nx2.vpaths hv hf0 hf ht0 ht
  have ny3 := ny2.le le3
  obtain ⟨m4, n4, gy', hgy', le4, _, run4⟩ := ny3.vpaths hw hf0 hf ht0 ht
  obtain rfl := hgx'.uniq hg hgx
  obtain rfl := hgy'.uniq hy hgy
  obtain ⟨H3, H4⟩ := H2 gx' gy' hgx hgy
  have l1 := le1.le
  have l2 := le2.le
  have l3 := le3.le
  have l4 := le4.le
  have hnl := next_len (g := mkG N L U) hg (d := gx') (v := f.toNat)
  refine condT rfl (ldx (sd.le hle) ht0 (by omega) (ldx (se.le hle) ht0 (by omega) (condET H1 ⟨_, _, _, _, _, _, _, rds_of nx.get, _, _, _, _, _, run1 _ ⟨rfl, rfl, rfl⟩, Later.mk ⟨_, _, _, _, _, _, _, rds_of ny1.get, _, _, _, _, _, run2 _ ⟨rfl, rfl, rfl⟩, Later.mk ?_⟩⟩)))
  refine ⟨true, m2, n2, same_c rfl rfl (ow1.sl.le le2) ow2.sl (by omega) ⟨by rw [decide_eq_true H3], rfl, rfl⟩, Later.mk (condT rfl ⟨_, _, _, _, _, _, _, rds_of nx2.get, _, _, _, run3 _ ⟨rfl, rfl, rfl⟩, Later.mk ⟨_, _, _, _, _, _, _, rds_of ny3.get, _, _, _, run4 _ ⟨rfl, rfl, rfl⟩, Later.mk ⟨⟨_, _, _, _, _, _, _, rds_of ny2.get, rfl⟩, ⟨_, _, _, _, _, _, _, rds_of nyy.get, rfl⟩, by omega, by omega, by omega, by omega, by omega, ?_⟩⟩⟩)⟩
  have : (pathsN (mkG N L U) gx' t.toNat f.toNat == pathsN (mkG N L V) gy' t.toNat f.toNat) = true := by rw [beq_iff_eq]; exact H4
  rw [this]; exact hq _ _
theorem cut_loop {m0 : Mem} {n0 x y : Nat} {k f t : Int} {V : List Bool} {va da ea ga : Option Addr} {vc dc ec gc : Nat} {d e gg : List Int} (hV : V = U.set k.toNat false) (hk0 : 0 ≤ k) (hk : k < L.length) (ns : NS m0 n0 x N L U la ua L.length lc U.length uc) (ny : NS m0 n0 y N L V la va L.length lc V.length vc) (hv : lvalid N L U.length = true) (hf0 : 0 ≤ f) (hf : f < N) (ht0 : 0 ≤ t) (ht : t < N)
    (hd : IsDist (mkG N L U) f.toNat d) (he : IsDist (mkG N L V) f.toNat e) (hgg : IsDist (mkG N L U) t.toNat gg) (sd : Sl m0 n0 da dc (d.map vi)) (se : Sl m0 n0 ea ec (e.map vi)) (sg : Sl m0 n0 ga gc (gg.map vi)) {Q : Value → Mem → Nat → Prop} (hq : ∀ m' n', Q (.bool true) m' n') :
    ∀ (j i n : Nat), i + j = N.toNat → n0 ≤ n → W Try.prog { fn := fLaw10SpfCut, nt := 220, slots := [(1, vi k), (2, vi f), (3, vi t), (4, pp x), (9, .bool true), (10, pp y), (11, .slice da d.length dc), (12, .slice ea e.length ec), (13, .slice ga gg.length gc), (14, vi i)], todo := pt Try.prog fLaw10SpfCut [1, 1, 1, 1, 1, 1, 1, 1, 0, 1, 0, 0] } m0 n Q := by
  obtain ⟨hg, hl60, hN1, hN2, hul, hgN, hgX⟩ := lvalid_ok hv
  have hVl : V.length = U.length := by rw [hV]; simp [-Bool.exists_bool]
  have hw : lvalid N L V.length = true := by rw [hVl]; exact hv
  have hcut : Cut (mkG N L U) (mkG N L V) k.toNat := by rw [hV]; exact cut_of hul
  have hgNV : (mkG N L V).N = N.toNat := rfl
  have dlen := hd.len
  have elen := he.len
  have glen := hgg.len
  rw [hgN] at dlen glen
  rw [hgNV] at elen
  have gx := ns.get
  intro j
  induction j with
  | zero =>
    intro i n hij hn
    have hH : (Off (mkG N L U) k.toNat t.toNat gg f.toNat ∨ U[k.toNat]'(by omega) = false) → CutH N L U V f.toNat t.toNat d e := by
      rintro (ho | hu)
      · have hyok := hcut.ok hg
        obtain ⟨_, _, _, gy0, hgy0, _⟩ := ny.vdist hw ht0 ht
        refine ⟨?_, fun gx gy h1 h2 => ?_⟩
        · rw [hd.sym hg hgg, he.sym hyok hgy0]; exact (ho.same hg hcut hgg hgy0).symm
        · obtain rfl := h1.uniq hg hgg
          exact ⟨ho.nexts hg hcut hgg h2, ho.paths hg hcut hgg h2 ((gd gx f.toNat).toNat + 1) f.toNat (by omega)⟩
      · have hVU : V = U := by
          rw [hV]
          apply List.ext_getElem (by simp [-Bool.exists_bool])
          intro q h1 h2
          rw [List.getElem_set]
          split
          · rename_i e; subst e; exact hu.symm
          · rfl
        subst hVU
        refine ⟨by rw [hd.uniq hg he], fun gx gy h1 h2 => by rw [h1.uniq hg h2]; exact ⟨rfl, rfl⟩⟩
    have hkU : k.toNat < U.length := by omega
    have hkL : k.toNat < L.length := by omega
    have hz := zip_at (N := N) (U := U) hul hkL
    generalize hl : L[k.toNat] = l at hz
    have hlk := hg.at hz
    rw [hgN] at hlk
    generalize hm1 : (m0.set n (.cells none tApiLink 3 [.int .i64 0, .int .i64 0, .int .i64 0])).set n (.cells none tApiLink 3 (encL l)) = ma
    have ka : ∀ q, q ≠ n → ma.get q = m0.get q := fun q hq => by rw [← hm1, Tr.get_set, if_neg (fun e => hq e.symm), Tr.get_set, if_neg (fun e => hq e.symm)]
    have gl : ma.get n = some (.cells none tApiLink 3 (encL l)) := by rw [← hm1]; simp [-Bool.exists_bool, Tr.get_set]
    have hst : storeCs (m0.set n (.cells none tApiLink 3 [.int .i64 0, .int .i64 0, .int .i64 0])) n 0 (encL l) = some ma := by
      have := store_of (m := m0.set n (.cells none tApiLink 3 [.int .i64 0, .int .i64 0, .int .i64 0])) (b := n) (off := 0) (vs := encL l) (T := tApiLink) (sz := 3) (cs := [.int .i64 0, .int .i64 0, .int .i64 0]) (by simp [-Bool.exists_bool, Tr.get_set]) (by simp [-Bool.exists_bool]) (by simp [-Bool.exists_bool, encL, cellOk])
      rw [this, ← hm1]
      simp [-Bool.exists_bool, encL]
    have hla : Le m0 n0 ma (n + 1) := ⟨by omega, fun q hq => ka q (by omega)⟩
    have nsa := ns.le hla
    have gxa := nsa.get
    have sda := sd.le hla
    have sga := sg.le hla
    obtain ⟨b, o, s', e0, q1, q2, q3, q4, q5, q6, q7⟩ := lnk ns.sl hkL
    rw [hl] at q4
    have fin : ∀ (on : Bool), (on = false → CutH N L U V f.toNat t.toNat d e) → W Try.prog { fn := fLaw10SpfCut, nt := 220, slots := [(2, vi f), (3, vi t), (4, pp x), (9, .bool true), (10, pp y), (11, .slice da d.length dc), (12, .slice ea e.length ec), (16, .bool on)], todo := pt Try.prog fLaw10SpfCut [1, 1, 1, 1, 1, 1, 1, 1, 1, 1, 1, 0, 0] } ma (n + 1 + 63) Q :=
      fun on hon => cut_end ns ny hv hw hf0 hf ht0 ht (by omega) (by omega) sd se hq on hon (hla.up (by omega))
    refine W_of mixed (cfg := xcfg) (fuel := 400) ?_
    rw [xLaw10SpfCutk0]
    refine ⟨isC_of gx, _, rd_of gx rfl, condDF (by omega) ⟨isC_of gx, _, _, _, rd_of gx rfl, ?_⟩⟩
    have key : ∀ {K : Prop}, K → elimA la False fun k36 k37 p38 => (0 ≤ k ∧ k < (L.length : Int) ∧ liveAt m0 k36 = true ∧ (p38 ≠ none → 0 < lc)) ∧ ∃ x39 x40 x41 : Int, rds m0 k36 (offOf k37 p38 + k.toNat * 3) 3 = some [vi x39, vi x40, vi x41] ∧ (x39 = l.a ∧ x40 = l.b ∧ x41 = l.c ∧ K) := fun {K} hK => by
      rw [e0]; exact ⟨⟨hk0, hk, q1, q2⟩, _, _, _, q4, rfl, rfl, rfl, hK⟩
    rw [e0]
    refine ⟨⟨hk0, hk, q1, q2⟩, l.a, l.b, l.c, q4, memLet.mk fun mm ee => ⟨ma, by rw [ee]; exact hst, isC_of gxa, _, _, _, rd_of gxa rfl, ?_⟩⟩
    refine ldxb nsa.su hk0 (by omega) ?_
    rw [show gb U k.toNat = U[k.toNat] from (gb_get hkU).symm]
    cases hu : U[k.toNat] with
    | false => exact condF rfl (fin false fun _ => hH (.inr hu))
    | true =>
    rw [hu] at hz
    have off := fun hon => hH (.inl (off_of (k := k.toNat) hg hd hgg hz hon))
    have va := hd.val l.a.toNat
    have vb := hd.val l.b.toNat
    have wa := hgg.val l.a.toNat
    have wb := hgg.val l.b.toNat
    have xa := hd.lo l.a.toNat
    have xb := hd.lo l.b.toNat
    have ya := hgg.lo l.a.toNat
    have yb := hgg.lo l.b.toNat
    refine condT rfl (ldx sda ht0 (by omega) (condD (fun h1 => ⟨isC_of gl, _, rd_of gl rfl, ldx sda (by omega) (by omega) (condD (fun h2 => ?_) fun h2 => ?_)⟩) fun h1 => ?_))
    · refine ⟨isC_of gl, _, rd_of gl rfl, ldx sda (by omega) (by omega) ⟨isC_of gl, _, rd_of gl rfl, isC_of gl, _, rd_of gl rfl, ldx sga (by omega) (by omega) (ldx sda ht0 (by omega) ?_)⟩⟩
      rw [wrap_id (x := gd d l.a.toNat + l.c) (by omega) (by omega), wrap_id (x := gd d l.a.toNat + l.c + gd gg l.b.toNat) (by omega) (by omega)]
      refine condE (fun h3 => fin true fun h => by cases h) fun h3 => ?_
      refine ⟨isC_of gl, _, rd_of gl rfl, ldx sda (by omega) (by omega) ⟨isC_of gl, _, rd_of gl rfl, isC_of gl, _, rd_of gl rfl, ldx sga (by omega) (by omega) (ldx sda ht0 (by omega) (fin _ fun h4 => off ?_))⟩⟩
      rw [wrap_id (x := gd d l.b.toNat + l.c) (by omega) (by omega), wrap_id (x := gd d l.b.toNat + l.c + gd gg l.a.toNat) (by omega) (by omega)] at h4
      have h4 : ¬ gd d l.b.toNat + l.c + gd gg l.a.toNat = gd d t.toNat := by simpa [-Bool.exists_bool] using h4
      rintro ⟨_, _, h5 | h5⟩
      · exact h3 h5
      · exact h4 h5
    · exact fin false fun _ => off fun h => h2 h.2.1
    · exact fin false fun _ => off fun h => h1 h.1
  | succ j ih =>
    intro i n hij hn
    have nxt := ih (i + 1) (n + 30) (by omega) (by omega)
    rw [← wrapN (k := i) (by omega)] at nxt
    have sd' : Sl m0 n da dc (d.map vi) := sd.same hn fun _ _ _ _ => rfl
    have se' : Sl m0 n ea ec (e.map vi) := se.same hn fun _ _ _ _ => rfl
    have far : 0 ≤ gd e (i : Int).toNat → 0 ≤ gd d (i : Int).toNat ∧ gd d (i : Int).toNat ≤ gd e (i : Int).toNat := fun h => hcut.far hg hd he h
    refine W_of mixed (cfg := xcfg) (fuel := 400) ?_
    rw [xLaw10SpfCutk0]
    refine ⟨isC_of gx, _, rd_of gx rfl, condDT (by omega) (ldx sd' (by omega) (by omega) (condD (fun h1 => ?_) fun h1 => ?_))⟩
    · refine ldx se' (by omega) (by omega) (condDF (fun h => by have := far h; omega) (ldx se' (by omega) (by omega) (condDF (fun h => by have := far h; omega) nxt)))
    · refine ldx se' (by omega) (by omega) (condD (fun h2 => ldx se' (by omega) (by omega) (ldx sd' (by omega) (by omega) (condDF (by have := far h2; omega) nxt))) fun _ => nxt)
theorem cut_law {k f t : Int} (hfs : Fs m n) (hL : Sl m n la lc (L.flatMap encL)) (hU : Sl m n ua uc (U.map Value.bool)) {Q : Value → Mem → Nat → Prop} (hq : ∀ m' n', Q (.bool true) m' n') :
    Wc Try.prog fLaw10SpfCut [netV N la L.length lc ua U.length uc, vi k, vi f, vi t] m n Q := by
  refine Wc_of mixed (cfg := xcfg) (fuel := 400) ?_
  rw [xLaw10SpfCut]
  refine memLet.mk fun m0 e => ?_
  have ns0 : NS m0 (n + 1) n N L U la ua L.length lc U.length uc := by rw [e]; exact ns_new hL hU
  have f0 : Fs m0 (n + 1) := by rw [e]; exact hfs.set
  clear e
  refine known_c ⟨_, rfl, Later.mk ⟨_, _, _, _, _, _, _, rds_of ns0.get, lvalid_c ns0.hl ns0.sl ⟨_, rfl, Later.mk ?_⟩⟩⟩
  refine condB (fun _ => hq _ _) fun hv => ?_
  have hv : lvalid N L U.length = true := by simpa [-Bool.exists_bool] using hv
  obtain ⟨hg, hl60, hN1, hN2, hul, hgN, hgX⟩ := lvalid_ok hv
  have ga := ns0.get
  refine ⟨isC_of ga, _, _, _, rd_of ga rfl, condE (fun _ => hq _ _) fun hne => ⟨isC_of ga, _, _, _, rd_of ga rfl, ?_⟩⟩
  have bk := pickM_bnd (x := k) (n := (L.length : Int)) (by omega)
  have ba := pickM_bnd (x := f) (n := N) (by omega)
  have bb := pickM_bnd (x := t) (n := N) (by omega)
  refine ⟨_, _, _, pick_c (by omega) (by omega) ⟨rfl, rfl, rfl⟩, Later.mk ⟨isC_of ga, _, rd_of ga rfl, _, _, _, pick_c (by omega) (by omega) ⟨rfl, rfl, rfl⟩, Later.mk ⟨isC_of ga, _, rd_of ga rfl, _, _, _, pick_c (by omega) (by omega) ⟨rfl, rfl, rfl⟩, Later.mk ?_⟩⟩⟩
  refine ⟨⟨_, rd_of ga rfl, rfl⟩, ⟨_, rd_of ga rfl, rfl⟩, ⟨isC_of ga, rfl⟩, ⟨isC_of ga, rfl⟩, ⟨_, rd_of ga rfl, rfl⟩, ⟨isC_of ga, rfl⟩, Nat.le_refl _, Nat.le_refl _, Nat.le_refl _, isC_of ga, _, rd_of ga rfl, isC_of ga, _, _, _, rd_of ga rfl, isC_of ga, _, _, _, rd_of ga rfl, ?_⟩
  generalize pickM k (L.length : Int) = k' at *
  generalize pickM f N = f' at *
  generalize pickM t N = t' at *
  have ns1 : NS m0 (n + 1 + 16 + 10) n N L U la ua L.length lc U.length uc := ns0.le (Le.refl.up (by omega))
  obtain ⟨m1, n1, va, ow1, le1, fs1, run1⟩ := ownb_c rfl ns1.su (by omega)
  have l1 := le1.le
  have ns2 := ns1.le le1
  have g1 := ns2.get
  have mid : m1.get (n + 1 + 16 + 8) = none := by rw [le1.same _ (by omega)]; exact f0 _ (by omega)
  generalize hm2 : (m1.set (n + 1 + 16 + 8) (.cells none tLaw10Net 3 [vi 0, .slice none 0 0, .slice none 0 0])).set (n + 1 + 16 + 8) (.cells none tLaw10Net 3 [vi N, .slice la L.length lc, .slice va U.length U.length]) = m2
  have k2 : ∀ q, q ≠ n + 1 + 16 + 8 → m2.get q = m1.get q := fun q hq => by rw [← hm2, Tr.get_set, if_neg (fun e => hq e.symm), Tr.get_set, if_neg (fun e => hq e.symm)]
  have g2 : m2.get (n + 1 + 16 + 8) = some (.cells none tLaw10Net 3 [vi N, .slice la L.length lc, .slice va U.length U.length]) := by rw [← hm2]; simp [-Bool.exists_bool, Tr.get_set]
  have st2 : storeCs (m1.set (n + 1 + 16 + 8) (.cells none tLaw10Net 3 [vi 0, .slice none 0 0, .slice none 0 0])) (n + 1 + 16 + 8) 0 [vi N, .slice la L.length lc, .slice va U.length U.length] = some m2 := by
    have := store_of (m := m1.set (n + 1 + 16 + 8) (.cells none tLaw10Net 3 [vi 0, .slice none 0 0, .slice none 0 0])) (b := n + 1 + 16 + 8) (off := 0) (vs := [vi N, .slice la L.length lc, .slice va U.length U.length]) (T := tLaw10Net) (sz := 3) (cs := [vi 0, .slice none 0 0, .slice none 0 0]) (by simp [-Bool.exists_bool, Tr.get_set]) (by simp [-Bool.exists_bool]) (by simp [-Bool.exists_bool, cellOk])
    rw [this, ← hm2]; simp [-Bool.exists_bool]
  have ow2 : Ow m2 (n + 1 + 16 + 10) n1 tBool 1 va U.length U.length (U.map Value.bool) := ow1.same (Nat.le_refl _) fun b o s e => k2 b (by have := (ow1.bnd e).1; omega)
  obtain ⟨b, o, s, m3, ev, p1, p2, p3, p4, p5, p6, p7⟩ := stb ow2 (x := k') (by omega) (by omega) false
  have hVl : (U.set k'.toNat false).length = U.length := by simp [-Bool.exists_bool]
  have low : ∀ q, q < n + 1 → m3.get q = m0.get q := fun q hq => by rw [p7 q (by omega), k2 q (by omega), le1.same q (by omega)]
  have le3 : Le m0 (n + 1) m3 (n1 + 12) := ⟨by omega, low⟩
  have nx3 := ns0.le le3
  have sl3 : Sl m3 (n1 + 12) la lc (L.flatMap encL) := nx3.sl
  have ny3 : NS m3 (n1 + 12) (n + 1 + 16 + 8) N L (U.set k'.toNat false) la va L.length lc (U.set k'.toNat false).length U.length := by
    refine ⟨by rw [hVl, p7 _ (by omega)]; exact g2, by omega, sl3, p6.sl.same (by omega) fun _ _ _ _ => rfl, rfl, rfl⟩
  have hw : lvalid N L (U.set k'.toNat false).length = true := by rw [hVl]; exact hv
  obtain ⟨m4, n4, da, d, hd, hdl, ow4, le4, _, run4⟩ := nx3.vdist hv ba.1 ba.2
  have ny4 := ny3.le le4
  have nx4 := nx3.le le4
  obtain ⟨m5, n5, ea, e, he, hel, ow5, le5, _, run5⟩ := ny4.vdist hw ba.1 ba.2
  have nx5 := nx4.le le5
  have ny5 := ny4.le le5
  obtain ⟨m6, n6, gga, gg, hgg, hggl, ow6, le6, _, run6⟩ := nx5.vdist hv bb.1 bb.2
  have nx6 := nx5.le le6
  have ny6 := ny5.le le6
  have l4 := le4.le
  have l5 := le5.le
  have l6 := le6.le
  have g6 := nx6.get
  have gy4 := ny4.get
  have gy3 := ny3.get
  rw [hVl] at gy4 gy3 run5
  refine ⟨_, _, _, _, _, run1 _ ⟨rfl, rfl, rfl⟩, Later.mk (memLet.mk fun mm ee => ⟨m2, by rw [ee]; exact st2, ⟨_, _, _, rd_of g1 rfl, rfl⟩, ⟨isC_of g1, rfl⟩, ⟨_, rd_of g1 rfl, rfl⟩, ⟨isC_of g1, rfl⟩, l1, l1, mid, isC_of g2, _, _, _, rd_of g2 rfl, ?_⟩)⟩
  rw [ev] at run5 gy4 gy3 ⊢
  refine ⟨⟨by omega, by omega, p3, p4⟩, m3, p5, _, _, _, _, _, _, _, rds_of nx3.get, _, _, _, _, _, run4 _ ⟨rfl, rfl, rfl⟩, Later.mk ⟨_, _, _, _, _, _, _, rds_of gy4, _, _, _, _, _, run5 _ ⟨rfl, rfl, rfl⟩, Later.mk ⟨_, _, _, _, _, _, _, rds_of nx5.get, _, _, _, _, _, run6 _ ⟨rfl, rfl, rfl⟩, Later.mk ?_⟩⟩⟩
  refine ⟨⟨_, _, _, _, _, _, _, rds_of nx3.get, rfl⟩, ⟨_, _, _, _, _, _, _, rds_of nx4.get, rfl⟩, ⟨_, _, _, _, _, _, _, rds_of gy3, rfl⟩, by omega, by omega, by omega, isC_of g6, _, rd_of g6 rfl, condNF hdl ⟨isC_of g6, _, rd_of g6 rfl, condNF hel ⟨isC_of g6, _, rd_of g6 rfl, condNF hggl ?_⟩⟩⟩
  exact cut_loop rfl bk.1 (by omega) nx6 ny6 hv ba.1 ba.2 bb.1 bb.2 hd he hgg (ow4.sl.le (le5.trans le6)) (ow5.sl.le le6) ow6.sl hq N.toNat 0 n6 (by omega) (Nat.le_refl _)
end
end Go.Proofs.Ytenpbdanffacjaa

namespace Go.Proofs.Ytenpbdanffacjaa
open Go Go.Ab Spf
/-- The chosen path, from its beginning on. -/
inductive FW (g : G) (d : List Int) (t : Nat) : Nat → List Int → List Int → Prop where
  | nil {pre : List Int} : FW g d t t pre []
  | cons {v w i : Nat} {c : Int} {pre r rest : List Int} : St g i w v c → nextL g d w = (i : Int) :: r → 0 ≤ gd d v → gd d v + c = gd d w → Back g d w ((i : Int) :: pre.reverse) → FW g d t w (pre ++ [(i : Int)]) rest → FW g d t v pre ((i : Int) :: rest)
theorem fw_of {g : G} (hg : g.Ok) {f t : Nat} {d : List Int} (hd : IsDist g f d) {v : Nat} {l : List Int} (hb : Back g d v l) : ∀ rest, 0 ≤ gd d v → FW g d t v l.reverse rest → FW g d t f [] (l.reverse ++ rest) := by
  induction hb with
  | nil h1 =>
    rename_i v
    intro rest h0 hw
    have : v = f := by
      by_cases e : v = f
      · exact e
      · exact ((next_ne hg hd e).2 h0 h1).elim
    subst this
    exact hw
  | cons h1 s h2 h3 hb ih =>
    rename_i v w i c r l
    intro rest h0 hw
    rw [List.reverse_cons, List.append_assoc]
    rw [List.reverse_cons] at hw
    exact ih ((i : Int) :: rest) h2 (.cons s h1 h2 h3 (by rw [List.reverse_reverse]; exact .cons h1 s h2 h3 hb) hw)
section
variable {m m' : Mem} {n n' : Nat} {N : Int} {L : List Lk} {U : List Bool} {la ua : Option Addr} {ll lc ul uc : Nat}
theorem Sl.pt {xs : List Int} {a : Option Addr} {c : Nat} (h : Sl m n a c (xs.map vi)) {i : Nat} (hi : i < xs.length) : ∃ b o s, a = some ⟨b, o, s⟩ ∧ liveAt m b = true ∧ (s ≠ none → 0 < c) ∧ rd m b (offOf o s + i * 1) = some (vi xs[i]) := by
  have hj : (xs.map vi)[i]? = some (vi xs[i]) := by simp [-Bool.exists_bool, hi]
  obtain ⟨b, o, s, e, h1, h2, h3⟩ := h.at hj
  exact ⟨b, o, s, e, h1, h2, by rw [Nat.mul_one]; exact h3⟩
theorem Sl.pre {cs : List Value} {b o o' : Nat} {s s' : Option Nat} {c c' : Nat} (h : Sl m n (some ⟨b, o, s⟩) c cs) (ho : offOf o' s' = offOf o s) (hc : s' ≠ none → 0 < c') (k : Nat) : Sl m n (some ⟨b, o', s'⟩) c' (cs.take k) := by
  rcases h with ⟨h1, _⟩ | ⟨b1, o1, s1, full, h1, h2, h3, h4, h5, h6⟩
  · cases h1
  · cases h1
    refine .inr ⟨b, o', s', full, rfl, h2, h3, fun hne => ?_, ?_, ?_⟩
    · have := h4 (by rintro rfl; simp [-Bool.exists_bool] at hne)
      exact ⟨this.1, hc, this.2.2⟩
    · rw [ho, List.length_take]; omega
    · rw [ho, List.length_take]
      conv => rhs; rw [← h6]
      rw [List.take_take]

theorem tree_loop {m0 : Mem} {n0 x : Nat} {f t : Int} {d P : List Int} {da pa qa : Option Addr} {dc qc : Nat} (ns : NS m0 n0 x N L U la ua L.length lc U.length uc) (hv : lvalid N L U.length = true) (hf0 : 0 ≤ f) (hf : f < N) (ht0 : 0 ≤ t) (ht : t < N) (hd : IsDist (mkG N L U) f.toNat d) (sd : Sl m0 n0 da dc (d.map vi)) (sp : Sl m0 n0 pa P.length (P.map vi)) (hP : P.length ≤ 100000)
    (sq : Sl m0 n0 qa qc ((parentsL (mkG N L U) d).map vi)) {Q : Value → Mem → Nat → Prop} {T : Nat}
    (hq : ∀ m' n', Le m0 n0 m' n' → W Try.prog { fn := fLaw10SpfTree, nt := 216, slots := [(2, vi t), (7, .bool true), (8, .slice da d.length dc), (10, .slice qa (parentsL (mkG N L U) d).length qc), (11, vi T), (12, vi (gd d T))], todo := pt Try.prog fLaw10SpfTree [1, 1, 1, 1, 1, 1, 1, 1, 0] } m' n' Q) :
    ∀ {v : Nat} {pre rest : List Int}, FW (mkG N L U) d T v pre rest → P = pre ++ rest → v < N.toNat → ∀ (m : Mem) (n : Nat), Le m0 n0 m n →
      W Try.prog { fn := fLaw10SpfTree, nt := 216, slots := [(1, vi f), (2, vi t), (3, pp x), (7, .bool true), (8, .slice da d.length dc), (9, .slice pa P.length P.length), (10, .slice qa (parentsL (mkG N L U) d).length qc), (11, vi v), (12, vi (gd d v)), (13, .int .i64 pre.length)], todo := pt Try.prog fLaw10SpfTree [1, 1, 1, 1, 1, 1, 1, 0, 1, 0, 0] } m n Q := by
  obtain ⟨hg, hl60, hN1, hN2, hul, hgN, hgX⟩ := lvalid_ok hv
  have plen : (parentsL (mkG N L U) d).length = N.toNat := by simp [-Bool.exists_bool, parentsL, hgN]
  intro v pre rest hw
  induction hw with
  | nil =>
    rename_i pre
    intro hPe hvN m n hle
    refine W_of mixed (cfg := xcfg) (fuel := 400) ?_
    rw [xLaw10SpfTreek0]
    exact condDF (by simp [-Bool.exists_bool, hPe]) (hq m n hle)
  | cons s hnx h0 h1 hbk hfw ih =>
    rename_i v w i c pre r rest
    intro hPe hvN m n hle
    have hlt : pre.length < P.length := by simp [-Bool.exists_bool, hPe]
    have hPi : P[pre.length] = (i : Int) := by simp [-Bool.exists_bool, hPe]
    have sb := s.bnd hg
    rw [hgN] at sb
    obtain ⟨hi, hui, hup, hcc, hot⟩ := st_lists hul (s.symm hg)
    have ns1 : NS m (n + 52 + 23) x N L U la ua L.length lc U.length uc := ns.le (hle.up (by omega))
    have gx := ns1.get
    obtain ⟨b, o, s', e, q1, q2, q3, q4, q5, q6, q7⟩ := lnk ns1.sl hi
    obtain ⟨pb, po, ps, ep, r1, r2, r3⟩ := Sl.pt (sp.le hle) hlt
    rw [hPi] at r3
    -- the rest
    obtain ⟨m1, n1, a1, d1, hd1, ow1, le1, _, run1⟩ := ns1.vnext hv (f := (w : Int)) (t := f) (by omega) (by omega) hf0 hf
    obtain rfl := hd1.uniq hg hd
    rw [show ((w : Int).toNat) = w by omega] at ow1 run1
    have l1 := le1.le
    have ns2 : NS m1 (n1 + 36) x N L U la ua L.length lc U.length uc := ns1.le (le1.up (by omega))
    obtain ⟨m2, n2, a2, d2, l2, hd2, hb2, ow2, le2, _, run2⟩ := ns2.vpath hv (f := f) (t := (w : Int)) hf0 hf (by omega) (by omega)
    obtain rfl := hd2.uniq hg hd
    rw [show ((w : Int).toNat) = w by omega] at hb2
    have hl2 : l2 = (i : Int) :: pre.reverse := hb2.uniq hbk
    have hrev : l2.reverse = P.take (pre.length + 1) := by
      rw [hl2, hPe, show pre ++ (i : Int) :: rest = (pre ++ [(i : Int)]) ++ rest by simp, List.take_left' (by simp [-Bool.exists_bool]), List.reverse_cons, List.reverse_reverse]
    have ll2 := le2.le
    have hle1 : Le m0 n0 m1 n1 := (hle.up (show n ≤ n + 52 + 23 by omega)).trans le1
    have hle2 : Le m0 n0 m2 n2 := (hle1.up (show n1 ≤ n1 + 36 by omega)).trans le2
    have g1 := (ns2.get)
    obtain ⟨pb1, po1, ps1, ep1, u1, u2, u3⟩ := Sl.pt (sp.le hle1) hlt
    rw [hPi] at u3
    rw [ep] at ep1; cases ep1
    have sp2 := sp.le hle2
    rw [ep] at sp2
    have hlen : (((pre ++ [(i : Int)]).length : Nat) : Int) = ((pre.length + 1 : Nat) : Int) := by simp [-Bool.exists_bool]
    have nxt := ih (by simp [-Bool.exists_bool, hPe]) sb.1 m2 n2 hle2
    rw [hlen, ← h1, ep] at nxt
    have vv := hd.val v
    have hwr : IntKind.i64.wrap (gd d2 v + L[i].c) = gd d2 v + c := by rw [hcc]; exact wrap_id (by omega) (by omega)
    have hw1 := wrapN (k := pre.length) (by omega)
    have bnd : 0 ≤ (i : Int) ∧ (i : Int) < (L.length : Int) ∧ liveAt m b = true ∧ (s' ≠ none → 0 < lc) := ⟨by omega, by omega, q1, q2⟩
    have bp : 0 ≤ (pre.length : Int) ∧ (pre.length : Int) < (P.length : Int) ∧ liveAt m pb = true ∧ (ps ≠ none → 0 < P.length) := ⟨by omega, by omega, r1, r2⟩
    have bp1 : 0 ≤ (pre.length : Int) ∧ (pre.length : Int) < (P.length : Int) ∧ liveAt m1 pb = true ∧ (ps ≠ none → 0 < P.length) := ⟨by omega, by omega, u1, u2⟩
    have hparw : gd (parentsL (mkG N L U) d2) w = (i : Int) := by rw [gd_parents (by rw [hgN]; exact sb.1)]; simp [-Bool.exists_bool, par, hnx]
    have hotw : other L[i] v = w := hot
    have hnn : (nextL (mkG N L U) d2 w).length ≠ 0 := by rw [hnx]; simp [-Bool.exists_bool]
    have sq1 := sq.le hle1
    have e0 := e
    rw [e] at gx g1
    -- the comparison of the paths
    have fin : ∀ o' s2, offOf o' s2 = offOf po ps → (s2 ≠ none → 0 < P.length) → Wc Try.prog fKitSameint [.slice a2 l2.reverse.length l2.reverse.length, .slice (some ⟨pb, o', s2⟩) ((((pre.length + 1 : Nat) : Int)).toNat - 0) (P.length - 0)] m2 n2 fun v132 m133 k134 => v132 = .bool true ∧ m133 = m2 ∧ k134 = n2 := by
      intro o' s2 ho hs2
      have hS := Sl.pre (c' := P.length - 0) sp2 ho (by simpa [-Bool.exists_bool] using hs2) (pre.length + 1)
      rw [← List.map_take, ← hrev] at hS
      refine same_c rfl ?_ ow2.sl hS (by rw [hrev]; simp; omega) ⟨by rw [decide_eq_true rfl], rfl, rfl⟩
      rw [hrev, List.length_take]; omega
    refine W_of mixed (cfg := xcfg) (fuel := 400) ?_
    rw [xLaw10SpfTreek0, ep, hw1]
    refine condDT (by omega) ⟨bp, _, r3, condDF (by omega) ⟨bp, _, r3, isC_of gx, _, _, _, rd_of gx rfl, condDF (by omega) ⟨isC_of gx, _, _, _, rd_of gx rfl, bp, _, r3, ?_⟩⟩⟩
    refine ns1.su.ldb hui ?_
    rw [hup]
    refine condF rfl ⟨isC_of gx, _, _, _, rd_of gx rfl, bp, _, r3, bnd, q3, _, q5, ?_⟩
    refine condN (fun hA => ⟨isC_of gx, _, _, _, rd_of gx rfl, bp, _, r3, bnd, q3, _, q6, condNF (by rcases other_of hotw with ⟨o1, _⟩ | ⟨_, o2, _⟩; (· exact (hA o1).elim); (· exact o2)) ?_⟩) fun hA => ?_
    all_goals
      have o3 : (if L[i].a = (v : Int) then L[i].b else L[i].a) = (w : Int) := by rcases other_of hotw with ⟨_, _, o3⟩ | ⟨_, _, o3⟩ <;> exact o3
      refine ⟨isC_of gx, _, _, _, rd_of gx rfl, bp, _, r3, bnd, _, _, _, q4, (w : Int), m, n + 52 + 23, lother_c (l := L[i]) ⟨by rw [o3], rfl, rfl⟩, Later.mk ⟨isC_of gx, _, _, _, rd_of gx rfl, bp, _, r3, bnd, q3, _, q7, rfl, ⟨_, q7, rfl⟩, ⟨q3, rfl⟩, ⟨bnd, rfl⟩, ⟨_, r3, rfl⟩, ⟨bp, rfl⟩, ⟨_, _, _, rd_of gx rfl, rfl⟩, ⟨isC_of gx, rfl⟩, Nat.le_refl _, ?_⟩⟩
      rw [hwr]
      rw [e] at run1 run2
      refine ⟨_, _, _, _, _, _, _, rds_of gx, run1 _ ⟨_, _, _, rfl, Later.mk (condEF (by omega) ?_)⟩⟩
      have k0 := ow1.sl.ldi (i := 0) (by omega) (K := fun x101 => x101 = (i : Int)) (by simp [-Bool.exists_bool, hnx])
      revert k0
      generalize (a1 : Option Addr) = az
      intro k0
      rcases az with _ | ⟨b9, o9, s9⟩
      · exact k0.elim
      obtain ⟨⟨_, z2, z3, z4⟩, x9, z5, z6⟩ := k0
      refine ⟨⟨by omega, by omega, z3, z4⟩, x9, by simpa [-Bool.exists_bool] using z5, bp1, _, u3, condNF z6 ?_⟩
      refine ldx sq1 (by omega) (by omega) ⟨bp1, _, u3, condNF (by rw [show ((w : Int).toNat) = w by omega]; exact hparw) ?_⟩
      refine ⟨_, _, _, _, _, _, _, rds_of g1, _, _, _, _, _, run2 _ ⟨rfl, rfl, rfl⟩, Later.mk ?_⟩
      cases ps with
      | none => exact ⟨⟨by omega, by omega⟩, true, m2, n2, fin _ _ (by simp [-Bool.exists_bool]) (fun h => (h rfl).elim), Later.mk ⟨rfl, by omega, by omega, condF rfl nxt⟩⟩
      | some tt => exact ⟨⟨by omega, by omega⟩, ⟨by omega, by omega⟩, true, m2, n2, fin _ _ (by simp [-Bool.exists_bool]) (fun _ => by omega), Later.mk ⟨rfl, by omega, by omega, condF rfl nxt⟩⟩
end
end Go.Proofs.Ytenpbdanffacjaa

namespace Go.Proofs.Ytenpbdanffacjaa
open Go Go.Ab Spf
section
variable {m m' : Mem} {n n' : Nat} {N : Int} {L : List Lk} {U : List Bool} {la ua : Option Addr} {ll lc ul uc : Nat}
theorem tree_law {f t : Int} (hL : Sl m n la lc (L.flatMap encL)) (hU : Sl m n ua uc (U.map Value.bool)) {Q : Value → Mem → Nat → Prop} (hq : ∀ m' n', Q (.bool true) m' n') :
    Wc Try.prog fLaw10SpfTree [netV N la L.length lc ua U.length uc, vi f, vi t] m n Q := by
  refine Wc_of mixed (cfg := xcfg) (fuel := 400) ?_
  rw [xLaw10SpfTree]
  refine memLet.mk fun m0 e => ?_
  have ns0 : NS m0 (n + 1) n N L U la ua L.length lc U.length uc := by rw [e]; exact ns_new hL hU
  clear e
  refine known_c ⟨_, rfl, Later.mk ⟨_, _, _, _, _, _, _, rds_of ns0.get, lvalid_c ns0.hl ns0.sl ⟨_, rfl, Later.mk ?_⟩⟩⟩
  refine condB (fun _ => hq _ _) fun hv => ?_
  have hv : lvalid N L U.length = true := by simpa [-Bool.exists_bool] using hv
  obtain ⟨hg, hl60, hN1, hN2, hul, hgN, hgX⟩ := lvalid_ok hv
  have ga := ns0.get
  have ba := pickM_bnd (x := f) (n := N) (by omega)
  have bb := pickM_bnd (x := t) (n := N) (by omega)
  refine ⟨isC_of ga, _, rd_of ga rfl, _, _, _, pick_c (by omega) (by omega) ⟨rfl, rfl, rfl⟩, Later.mk ⟨isC_of ga, _, rd_of ga rfl, _, _, _, pick_c (by omega) (by omega) ⟨rfl, rfl, rfl⟩, Later.mk ⟨⟨_, rd_of ga rfl, rfl⟩, ⟨isC_of ga, rfl⟩, Nat.le_refl _, Nat.le_refl _, ?_⟩⟩⟩
  generalize pickM f N = f' at *
  generalize pickM t N = t' at *
  have ns1 : NS m0 (n + 1 + 10 + 13) n N L U la ua L.length lc U.length uc := ns0.le (Le.refl.up (by omega))
  obtain ⟨m1, n1, pa, d, hd, hdl, ow1, le1, _, run1⟩ := ns1.vdist hv ba.1 ba.2
  have ns2 := ns1.le le1
  obtain ⟨m2, n2, pb, d2, l, hd2, hb, ow2, le2, _, run2⟩ := ns2.vpath hv ba.1 ba.2 bb.1 bb.2
  obtain rfl := hd2.uniq hg hd
  have ns3 := ns2.le le2
  obtain ⟨m3, n3, pc, d3, hd3, ow3, le3, _, run3⟩ := ns3.vparents hv ba.1 ba.2
  obtain rfl := hd3.uniq hg hd2
  have ns4 := ns3.le le3
  have l1 := le1.le
  have l2 := le2.le
  have l3 := le3.le
  have g1 := ns2.get
  have g2 := ns3.get
  have g3 := ns4.get
  have plen : ((parentsL (mkG N L U) d3).length : Int) = N := by simp [-Bool.exists_bool, parentsL, hgN]; omega
  have hll := hb.len hg
  have hvt := hd.val t'.toNat
  refine ⟨_, _, _, _, _, _, _, rds_of ga, _, _, _, _, _, run1 _ ⟨rfl, rfl, rfl⟩, Later.mk ⟨_, _, _, _, _, _, _, rds_of g1, _, _, _, _, _, run2 _ ⟨rfl, rfl, rfl⟩, Later.mk ⟨_, _, _, _, _, _, _, rds_of g2, _, _, _, _, _, run3 _ ⟨rfl, rfl, rfl⟩, Later.mk ?_⟩⟩⟩
  refine ⟨⟨_, _, _, _, _, _, _, rds_of ga, rfl⟩, ⟨_, _, _, _, _, _, _, rds_of g1, rfl⟩, ⟨_, _, _, _, _, _, _, rds_of ga, rfl⟩, by omega, by omega, by omega, isC_of g3, _, rd_of g3 rfl, condNF hdl ⟨isC_of g3, _, rd_of g3 rfl, condNF plen ?_⟩⟩
  have sd := ow1.sl.le (le2.trans le3)
  have sp := ow2.sl.le le3
  have sq := ow3.sl
  have hfN : f'.toNat < (mkG N L U).N := by rw [hgN]; omega
  have htN : t'.toNat < (mkG N L U).N := by rw [hgN]; omega
  refine ldx sq ba.1 (by omega) (condNF (by rw [gd_parents hfN]; simp [-Bool.exists_bool, par, next_end hg hd3]) (ldx sd bb.1 (by omega) (condF ?_ ?_)))
  · have hiff : (l.reverse.length : Int) > 0 ↔ gd d3 t'.toNat > 0 := by
      rw [List.length_reverse]
      constructor
      · intro h
        cases hb with
        | nil => simp [-Bool.exists_bool] at h
        | cons _ s h2 h3 _ => have := s.bnd hg; omega
      · intro h
        cases hb with
        | nil h1 =>
          have hne : t'.toNat ≠ f'.toNat := fun e => by rw [e, hd3.src] at h; omega
          exact ((next_ne hg hd3 hne).2 (by omega) h1).elim
        | cons => simp only [List.length_cons]; omega
    rw [show decide ((l.reverse.length : Int) > 0) = decide (gd d3 t'.toNat > 0) from decide_eq_decide.2 hiff]
    cases decide (gd d3 t'.toNat > 0) <;> rfl
  -- the loop
  have hsrc := hd3.src
  by_cases h0 : 0 ≤ gd d3 t'.toNat
  · have fw := fw_of (t := t'.toNat) hg hd3 hb [] h0 .nil
    rw [List.append_nil] at fw
    have key := tree_loop (x := n) ns4 hv ba.1 ba.2 bb.1 bb.2 hd3 sd sp (by rw [List.length_reverse]; omega) sq (Q := Q) (T := t'.toNat) (fun m5 n5 hle5 => by
      refine W_of1 mixed (cfg := xcfg) (fuel := 400) ?_
      rw [xLaw10SpfTreek1]
      have e2 : ((t'.toNat : Nat) : Int) = t' := by omega
      refine condT rfl (ldx (sd.le hle5) bb.1 (by omega) (condDF (by omega) (condET e2 (ldx (sd.le hle5) bb.1 (by omega) ?_))))
      have : (gd d3 t'.toNat == gd d3 t'.toNat) = true := by simp [-Bool.exists_bool]
      rw [this]; exact hq _ _) fw rfl (by omega) m3 n3 Le.refl
    rw [hsrc, show ((f'.toNat : Nat) : Int) = f' by omega] at key
    exact key
  · have hne : t'.toNat ≠ f'.toNat := fun e => by rw [e, hsrc] at h0; omega
    have hnil : nextL (mkG N L U) d3 t'.toNat = [] := by
      cases hc : nextL (mkG N L U) d3 t'.toNat with
      | nil => rfl
      | cons a r => exact (h0 ((next_ne hg hd3 hne).1 (by rw [hc]; simp [-Bool.exists_bool]))).elim
    have hl0 : l = [] := hb.uniq (.nil hnil)
    subst hl0
    refine W_of mixed (cfg := xcfg) (fuel := 400) ?_
    rw [xLaw10SpfTreek0]
    refine condDF (by simp [-Bool.exists_bool]) ?_
    refine W_of1 mixed (cfg := xcfg) (fuel := 400) ?_
    rw [xLaw10SpfTreek1]
    exact condT rfl (ldx sd bb.1 (by omega) (condDT (by omega) (ldx sq bb.1 (by omega) (condET (by rw [gd_parents htN]; simp [-Bool.exists_bool, par, hnil]) (hq _ _)))))
end
end Go.Proofs.Ytenpbdanffacjaa

namespace Go.Proofs.Ytenpbdanffacjaa
open Go Go.Ab Spf
set_option maxRecDepth 1000000 in
theorem spfTree_main (m : Mem) (n : Nat) (ars : List Value) (hl : ars.length = ([38, 3, 3] : List TypeId).length) (ht : ∀ (j : Nat) t a, ([38, 3, 3] : List TypeId)[j]? = some t → ars[j]? = some a → TyV Try.prog m t a)
    (_ : ∀ i o, m.get i = some o → own o = false) (hfresh : ∀ i, n ≤ i → m.get i = none) : Wc Try.prog fLaw10SpfTree ars m n fun v _ _ => v = .bool true := by
  match ars, hl with
  | [x, a, b], _ =>
    obtain ⟨N, la, L, lc, ua, U, uc, rfl, h1, h2⟩ := net_of hfresh (ht 0 38 x (by simp [-Bool.exists_bool]) (by simp [-Bool.exists_bool]))
    obtain ⟨a, rfl, _⟩ := TyV.int undInt (ht 1 3 a (by simp [-Bool.exists_bool]) (by simp [-Bool.exists_bool]))
    obtain ⟨b, rfl, _⟩ := TyV.int undInt (ht 2 3 b (by simp [-Bool.exists_bool]) (by simp [-Bool.exists_bool]))
    exact tree_law h1 h2 fun _ _ => rfl
end Go.Proofs.Ytenpbdanffacjaa
