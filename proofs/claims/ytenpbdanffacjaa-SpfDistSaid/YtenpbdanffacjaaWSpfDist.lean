/- WSpfDist: what parts of the program compute; helper of the claim. -/
import Derived.Test.YtenpbdanffacjaaWBase
namespace Go.Proofs.Ytenpbdanffacjaa
open Go Go.Ab Spf
section
variable {m m' : Mem} {n n' : Nat} {N : Int} {L : List Lk} {U : List Bool} {la ua : Option Addr} {ll lc ul uc : Nat}
theorem ldx {D : List Int} {a : Option Addr} {c : Nat} (h : Sl m n a c (D.map vi)) {x : Int} (h0 : 0 ≤ x) (h1 : x < D.length) {K : Int → Prop} (hk : K (gd D x.toNat)) :
    elimA a False fun b o s => (0 ≤ x ∧ x < (D.length : Int) ∧ liveAt m b = true ∧ (s ≠ none → 0 < c)) ∧ ∃ y : Int, rd m b (offOf o s + x.toNat * 1) = some (vi y) ∧ K y := by
  have hi : x.toNat < D.length := by omega
  have := h.ldi hi (K := K) (by rw [gd_get hi]; exact hk)
  rw [show ((x.toNat : Nat) : Int) = x by omega] at this
  exact this
theorem lvalid_valid (h : lvalid N L U.length = true) {E : List Int} (hE : ∀ x ∈ E, 0 ≤ x ∧ x < N) : validP N L U.length E = true := by
  simp only [lvalid, Bool.and_eq_true, decide_eq_true_eq] at h
  obtain ⟨h1, ⟨h2, h3⟩, h4, h5⟩ := h
  have h6 : E.all (inN N) = true := by
    rw [List.all_eq_true]
    intro x hx
    simp [-Bool.exists_bool, inN, hE x hx]
  simp only [validP, h5, h6, decide_eq_true h2, decide_eq_true h3, decide_eq_true h4, Bool.true_and, Bool.and_true]
  exact decide_eq_true (by omega)
theorem lvalid_ok (h : lvalid N L U.length = true) : (mkG N L U).Ok ∧ L.length ≤ 60 ∧ 1 ≤ N ∧ N ≤ 32 ∧ U.length = L.length ∧ (mkG N L U).N = N.toNat ∧ (mkG N L U).X = L.zip U := by
  have hv := (valid_iff (lvalid_valid h (E := []) (by simp [-Bool.exists_bool]))).1
  simp only [lvalid, Bool.and_eq_true, decide_eq_true_eq] at h
  obtain ⟨h1, ⟨h2, h3⟩, h4, h5⟩ := h
  exact ⟨hv, h1, h2, h3, h4, rfl, rfl⟩
/-- What a call of dist hands back, of a network that is valid. -/
theorem NS.vdist {x : Nat} (h : NS m n x N L U la ua ll lc ul uc) (hv : lvalid N L U.length = true) {f : Int} (h0 : 0 ≤ f) (h1 : f < N) :
    ∃ m' n' a D, IsDist (mkG N L U) f.toNat D ∧ (D.length : Int) = N ∧ Ow m' n n' tInt 1 a D.length D.length (D.map vi) ∧ Le m n m' n' ∧ (Fs m n → Fs m' n') ∧ Exact Try.prog fLaw10Netdist [netV N la ll lc ua ul uc, vi f] m n (.slice a D.length D.length) m' n' := by
  obtain ⟨m', n', a, D, h2, h3, h4, h5, run⟩ := netdist_c (N := N) (f := f) h.hl h.hu h.sl h.su
  have hd : IsDist (mkG N L U) f.toNat D := by
    unfold DistR at h2
    rw [if_pos (lvalid_valid hv (by simp; omega))] at h2
    exact h2
  have := hd.len
  have := (lvalid_ok hv).2.2.2.2.2.1
  exact ⟨m', n', a, D, hd, by omega, h3, h4, h5, run⟩
theorem NS.vnext {x : Nat} (h : NS m n x N L U la ua ll lc ul uc) (hv : lvalid N L U.length = true) {f t : Int} (h0 : 0 ≤ f) (h1 : f < N) (h2 : 0 ≤ t) (h3 : t < N) :
    ∃ m' n' a d, IsDist (mkG N L U) t.toNat d ∧ Ow m' n n' tInt 1 a (nextL (mkG N L U) d f.toNat).length (nextL (mkG N L U) d f.toNat).length ((nextL (mkG N L U) d f.toNat).map vi) ∧ Le m n m' n' ∧ (Fs m n → Fs m' n') ∧
      Exact Try.prog fLaw10Netnext [netV N la ll lc ua ul uc, vi f, vi t] m n (.slice a (nextL (mkG N L U) d f.toNat).length (nextL (mkG N L U) d f.toNat).length) m' n' := by
  obtain ⟨m', n', a, D, h4, h5, h6, h7, run⟩ := netnext_c (N := N) (f := f) (t := t) h.hl h.hu h.sl h.su
  unfold NextR at h4
  rw [if_pos (lvalid_valid hv (by simp; omega))] at h4
  obtain ⟨d, hd, rfl⟩ := h4
  exact ⟨m', n', a, d, hd, h5, h6, h7, run⟩
theorem NS.vpaths {x : Nat} (h : NS m n x N L U la ua ll lc ul uc) (hv : lvalid N L U.length = true) {f t : Int} (h0 : 0 ≤ f) (h1 : f < N) (h2 : 0 ≤ t) (h3 : t < N) :
    ∃ m' n' d, IsDist (mkG N L U) t.toNat d ∧ Le m n m' n' ∧ (Fs m n → Fs m' n') ∧ Exact Try.prog fLaw10Netpaths [netV N la ll lc ua ul uc, vi f, vi t] m n (vi (pathsN (mkG N L U) d t.toNat f.toNat)) m' n' := by
  obtain ⟨m', n', x, h4, h6, h7, run⟩ := netpaths_c (N := N) (f := f) (t := t) h.hl h.hu h.sl h.su
  unfold PathsR at h4
  rw [if_pos (lvalid_valid hv (by simp; omega))] at h4
  obtain ⟨d, hd, rfl⟩ := h4
  exact ⟨m', n', d, hd, h6, h7, run⟩
theorem NS.vpath {x : Nat} (h : NS m n x N L U la ua ll lc ul uc) (hv : lvalid N L U.length = true) {f t : Int} (h0 : 0 ≤ f) (h1 : f < N) (h2 : 0 ≤ t) (h3 : t < N) :
    ∃ m' n' a d l, IsDist (mkG N L U) f.toNat d ∧ Back (mkG N L U) d t.toNat l ∧ Ow m' n n' tInt 1 a l.reverse.length l.reverse.length (l.reverse.map vi) ∧ Le m n m' n' ∧ (Fs m n → Fs m' n') ∧ Exact Try.prog fLaw10Netpath [netV N la ll lc ua ul uc, vi f, vi t] m n (.slice a l.reverse.length l.reverse.length) m' n' := by
  obtain ⟨m', n', a, D, h4, h5, h6, h7, run⟩ := netpath_c (N := N) (f := f) (t := t) h.hl h.hu h.sl h.su
  unfold PathR at h4
  rw [if_pos (lvalid_valid hv (by simp; omega))] at h4
  obtain ⟨d, l, hd, hb, rfl⟩ := h4
  exact ⟨m', n', a, d, l, hd, hb, h5, h6, h7, run⟩
theorem NS.vparents {x : Nat} (h : NS m n x N L U la ua ll lc ul uc) (hv : lvalid N L U.length = true) {f : Int} (h0 : 0 ≤ f) (h1 : f < N) :
    ∃ m' n' a d, IsDist (mkG N L U) f.toNat d ∧ Ow m' n n' tInt 1 a (parentsL (mkG N L U) d).length (parentsL (mkG N L U) d).length ((parentsL (mkG N L U) d).map vi) ∧ Le m n m' n' ∧ (Fs m n → Fs m' n') ∧
      Exact Try.prog fLaw10Netparents [netV N la ll lc ua ul uc, vi f] m n (.slice a (parentsL (mkG N L U) d).length (parentsL (mkG N L U) d).length) m' n' := by
  obtain ⟨m', n', a, D, h4, h5, h6, h7, run⟩ := netparents_c (N := N) (f := f) h.hl h.hu h.sl h.su
  unfold ParR at h4
  rw [if_pos (lvalid_valid hv (by simp; omega))] at h4
  obtain ⟨d, hd, rfl⟩ := h4
  exact ⟨m', n', a, d, hd, h5, h6, h7, run⟩
/-- The network that came in, in its own block. -/
theorem ns_new (hL : Sl m n la lc (L.flatMap encL)) (hU : Sl m n ua uc (U.map Value.bool)) : NS (m.set n (.cells none tLaw10Net 3 [vi N, .slice la L.length lc, .slice ua U.length uc])) (n + 1) n N L U la ua L.length lc U.length uc :=
  ⟨by simp [-Bool.exists_bool, Tr.get_set], by omega, hL.le Le.new, hU.le Le.new, rfl, rfl⟩

theorem triangle_law {a b c : Int} (hL : Sl m n la lc (L.flatMap encL)) (hU : Sl m n ua uc (U.map Value.bool)) {Q : Value → Mem → Nat → Prop} (hq : ∀ m' n', Q (.bool true) m' n') :
    Wc Try.prog fLaw10SpfTriangle [netV N la L.length lc ua U.length uc, vi a, vi b, vi c] m n Q := by
  refine Wc_of mixed (cfg := xcfg) (fuel := 400) ?_
  rw [xLaw10SpfTriangle]
  refine memLet.mk fun m0 e => ?_
  have ns0 : NS m0 (n + 1) n N L U la ua L.length lc U.length uc := by rw [e]; exact ns_new hL hU
  clear e
  refine known_c ⟨_, rfl, Later.mk ⟨_, _, _, _, _, _, _, rds_of ns0.get, lvalid_c ns0.hl ns0.sl ⟨_, rfl, Later.mk ?_⟩⟩⟩
  refine condB (fun _ => hq _ _) fun hv => ?_
  have hv : lvalid N L U.length = true := by simpa [-Bool.exists_bool] using hv
  obtain ⟨hg, _, hN1, hN2, _, _, _⟩ := lvalid_ok hv
  have ga := ns0.get
  have ba := pickM_bnd (x := a) (n := N) (by omega)
  have bb := pickM_bnd (x := b) (n := N) (by omega)
  have bc := pickM_bnd (x := c) (n := N) (by omega)
  refine ⟨isC_of ga, _, rd_of ga rfl, _, _, _, pick_c (by omega) (by omega) ⟨rfl, rfl, rfl⟩, Later.mk ⟨isC_of ga, _, rd_of ga rfl, _, _, _, pick_c (by omega) (by omega) ⟨rfl, rfl, rfl⟩, Later.mk ⟨isC_of ga, _, rd_of ga rfl, _, _, _, pick_c (by omega) (by omega) ⟨rfl, rfl, rfl⟩, Later.mk ?_⟩⟩⟩
  refine ⟨⟨_, rd_of ga rfl, rfl⟩, ⟨_, rd_of ga rfl, rfl⟩, ⟨isC_of ga, rfl⟩, ⟨isC_of ga, rfl⟩, ⟨_, rd_of ga rfl, rfl⟩, ⟨isC_of ga, rfl⟩, Nat.le_refl _, Nat.le_refl _, Nat.le_refl _, ?_⟩
  generalize pickM a N = a' at *
  generalize pickM b N = b' at *
  generalize pickM c N = c' at *
  have ns1 : NS m0 (n + 1 + 15 + 8) n N L U la ua L.length lc U.length uc := ns0.le (Le.refl.up (by omega))
  obtain ⟨m1, n1, pa, d, hd, hdl, ow1, le1, _, run1⟩ := ns1.vdist hv ba.1 ba.2
  have ns2 := ns1.le le1
  obtain ⟨m2, n2, pb, e, he, hel, ow2, le2, _, run2⟩ := ns2.vdist hv bb.1 bb.2
  have ns3 := ns2.le le2
  have g1 := ns2.get
  have g2 := ns3.get
  have l1 := le1.le
  have l2 := le2.le
  refine ⟨_, _, _, _, _, _, _, rds_of ga, _, _, _, _, _, run1 _ ⟨rfl, rfl, rfl⟩, Later.mk ⟨_, _, _, _, _, _, _, rds_of g1, _, _, _, _, _, run2 _ ⟨rfl, rfl, rfl⟩, Later.mk ⟨⟨_, _, _, _, _, _, _, rds_of ga, rfl⟩, by omega, by omega, isC_of g2, _, rd_of g2 rfl, ?_⟩⟩⟩
  have sd := (ow1.le le2).sl
  have se := ow2.sl
  refine condNF hdl ⟨isC_of g2, _, rd_of g2 rfl, condNF hel ?_⟩
  refine ldx sd bb.1 (by omega) (ldx se ba.1 (by omega) (condNF (hd.sym hg he) ?_))
  refine ldx sd bb.1 (by omega) (condD (fun h1 => ?_) fun _ => hq _ _)
  refine ldx se bc.1 (by omega) (condD (fun h2 => ?_) fun _ => hq _ _)
  have ht := hd.tri hg he h1 h2
  refine ldx sd bc.1 (by omega) (condDF (by omega) (ldx sd bc.1 (by omega) (ldx sd bb.1 (by omega) (ldx se bc.1 (by omega) ?_))))
  have v1 := hd.val b'.toNat
  have v2 := he.val c'.toNat
  rw [wrap_id (by omega) (by omega)]
  exact condDF (by omega) (hq _ _)

/-- What came in. -/
theorem undInt : Try.prog.underlying tInt = some (.int .i64) := by kernel_rfl
theorem undBool : Try.prog.underlying tBool = some .bool := by kernel_rfl
theorem undLbool : Try.prog.underlying tLbool = some (.slice tBool) := by kernel_rfl
theorem undLlink : Try.prog.underlying tLapiLink = some (.slice tApiLink) := by kernel_rfl
theorem fldLink : fieldTys Try.prog tApiLink = some [tInt, tInt, tInt] := by kernel_rfl
theorem fldNet : fieldTys Try.prog tLaw10Net = some [tInt, tLapiLink, tLbool] := by kernel_rfl
theorem link_of {m : Mem} {f : Nat} {cs : List Value} (h : TyC Try.prog m f tApiLink cs) : ∃ l : Lk, cs = encL l := by
  obtain ⟨f, parts, rfl, hlen, hp⟩ := TyC.fields fldLink h
  match parts, hlen with
  | [p0, p1, p2], _ =>
    obtain ⟨a, rfl, _⟩ := TyC.int undInt (hp 0 tInt p0 (by simp [-Bool.exists_bool]) (by simp [-Bool.exists_bool]))
    obtain ⟨b, rfl, _⟩ := TyC.int undInt (hp 1 tInt p1 (by simp [-Bool.exists_bool]) (by simp [-Bool.exists_bool]))
    obtain ⟨c, rfl, _⟩ := TyC.int undInt (hp 2 tInt p2 (by simp [-Bool.exists_bool]) (by simp [-Bool.exists_bool]))
    exact ⟨⟨a, b, c⟩, rfl⟩
theorem links_of {m : Mem} {n : Nat} (hf : ∀ i, n ≤ i → m.get i = none) {f : Nat} {cs : List Value} (h : TyC Try.prog m f tLapiLink cs) : ∃ la L lc, cs = [.slice la (L : List Lk).length lc] ∧ Sl m n la lc (L.flatMap encL) ∧ L.length ≤ 9223372036854775807 := by
  obtain ⟨id, len, cap, nl, es, f, rfl, h1, h2, h3, h4, h5, h6⟩ := TyC.slice undLlink h
  obtain ⟨L, e1, e2⟩ := rows_enc (enc := encL) (es := es) fun x hx => link_of (h6 x hx).2
  rw [e1] at h4
  obtain rfl : len = L.length := by omega
  exact ⟨_, L, cap, rfl, Sl.in_ h4 (lt_of_get hf h4) fun e => by rw [← e1, h5 e]; rfl, by unfold maxLen at h2; omega⟩
theorem bools_of {m : Mem} {n : Nat} (hf : ∀ i, n ≤ i → m.get i = none) {f : Nat} {cs : List Value} (h : TyC Try.prog m f tLbool cs) : ∃ ua U uc, cs = [.slice ua (U : List Bool).length uc] ∧ Sl m n ua uc (U.map Value.bool) ∧ U.length ≤ 9223372036854775807 := by
  obtain ⟨id, len, cap, nl, es, f, rfl, h1, h2, h3, h4, h5, h6⟩ := TyC.slice undLbool h
  obtain ⟨U, e1, e2⟩ := rows_one (f := Value.bool) (es := es) fun x hx => TyC.bool undBool (h6 x hx).2
  rw [e1] at h4
  obtain rfl : len = U.length := by omega
  exact ⟨_, U, cap, rfl, Sl.in_ h4 (lt_of_get hf h4) fun e => by rw [← e1, h5 e]; rfl, by unfold maxLen at h2; omega⟩
theorem net_of {m : Mem} {n : Nat} (hf : ∀ i, n ≤ i → m.get i = none) {v : Value} (h : TyV Try.prog m tLaw10Net v) : ∃ N la L lc ua U uc, v = netV N la (L : List Lk).length lc ua (U : List Bool).length uc ∧ Sl m n la lc (L.flatMap encL) ∧ Sl m n ua uc (U.map Value.bool) := by
  obtain ⟨f, cs, rfl, hc⟩ := TyV.st fldNet h
  obtain ⟨f, parts, rfl, hlen, hp⟩ := TyC.fields fldNet hc
  match parts, hlen with
  | [p0, p1, p2], _ =>
    obtain ⟨N, rfl, _⟩ := TyC.int undInt (hp 0 tInt p0 (by simp [-Bool.exists_bool]) (by simp [-Bool.exists_bool]))
    obtain ⟨la, L, lc, rfl, h1, _⟩ := links_of hf (hp 1 tLapiLink p1 (by simp [-Bool.exists_bool]) (by simp [-Bool.exists_bool]))
    obtain ⟨ua, U, uc, rfl, h2, _⟩ := bools_of hf (hp 2 tLbool p2 (by simp [-Bool.exists_bool]) (by simp [-Bool.exists_bool]))
    exact ⟨N, la, L, lc, ua, U, uc, rfl, h1, h2⟩
end
end Go.Proofs.Ytenpbdanffacjaa

namespace Go.Proofs.Ytenpbdanffacjaa
open Go Go.Ab Spf
def gb (R : List Bool) (v : Nat) : Bool := (R[v]?).getD false
theorem gb_get {R : List Bool} {v : Nat} (h : v < R.length) : R[v] = gb R v := by simp [-Bool.exists_bool, gb, h]
theorem gb_set {R : List Bool} {v w : Nat} {k : Bool} (h : v < R.length) : gb (R.set v k) w = if w = v then k else gb R w := by
  unfold gb
  rw [List.getElem?_set]
  by_cases e : v = w
  · subst e; simp [-Bool.exists_bool, h]
  · simp [-Bool.exists_bool, e, Ne.symm e]
section
variable {m m' : Mem} {n n' : Nat} {N : Int} {L : List Lk} {U : List Bool} {la ua : Option Addr} {ll lc ul uc : Nat}
theorem ldxb {D : List Bool} {a : Option Addr} {c : Nat} (h : Sl m n a c (D.map Value.bool)) {x : Int} (h0 : 0 ≤ x) (h1 : x < D.length) {K : Bool → Prop} (hk : K (gb D x.toNat)) :
    elimA a False fun b o s => (0 ≤ x ∧ x < (D.length : Int) ∧ liveAt m b = true ∧ (s ≠ none → 0 < c)) ∧ ∃ y : Bool, rd m b (offOf o s + x.toNat * 1) = some (.bool y) ∧ K y := by
  have hi : x.toNat < D.length := by omega
  have := h.ldb hi (K := K) (by rw [gb_get hi]; exact hk)
  rw [show ((x.toNat : Nat) : Int) = x by omega] at this
  exact this
/-- Writing a flag. -/
theorem stb {n0 T c : Nat} {R : List Bool} {a : Option Addr} (h : Ow m n0 n T 1 a R.length c (R.map Value.bool)) {x : Int} (h0 : 0 ≤ x) (h1 : x < R.length) (y : Bool) :
    ∃ b o s m', a = some ⟨b, o, s⟩ ∧ n0 ≤ b ∧ b < n ∧ liveAt m b = true ∧ (s ≠ none → 0 < c) ∧ storeCs m b (offOf o s + x.toNat * 1) [.bool y] = some m' ∧ Ow m' n0 n T 1 a R.length c ((R.set x.toNat y).map Value.bool) ∧ ∀ j, j ≠ b → m'.get j = m.get j := by
  obtain ⟨b, o, s, m1, e, p1, p2, p3, p4, p5, p6, p7⟩ := h.store (j := x.toNat) (vs := [.bool y]) (by simp; omega) (by simp [-Bool.exists_bool, cellOk]) (by simp [-Bool.exists_bool])
  simp only [List.length_singleton] at p6
  rw [map_take_drop_set Value.bool R x.toNat y (by omega)] at p6
  exact ⟨b, o, s, m1, e, p1, p2, p3, p4, by simpa [-Bool.exists_bool] using p5, p6, p7⟩

/-- What the loop over the links has marked. -/
structure BR (g : G) (d : List Int) (i : Nat) (R : List Bool) : Prop where
  len : R.length = g.N
  up : ∀ v, gb R v = true → 0 ≤ gd d v
  all : ∀ j w v c, j < i → St g j w v c → 0 ≤ gd d w → gd d v = gd d w + c → gb R v = true

theorem zip_at {i : Nat} (hul : U.length = L.length) (hi : i < L.length) : (mkG N L U).X[i]? = some (L[i], U[i]'(by omega)) := by
  simp [-Bool.exists_bool, mkG, List.getElem?_zip_eq_some, hi]

def mark (R : List Bool) (c : Prop) [Decidable c] (v : Nat) : List Bool := if c then R.set v true else R
theorem BR.step {g : G} (hg : g.Ok) {d : List Int} {i : Nat} {R : List Bool} (h : BR g d i R) {l : Lk} (hl : g.X[i]? = some (l, true)) :
    BR g d (i + 1) (mark (mark R (0 ≤ gd d l.a.toNat ∧ gd d l.a.toNat - gd d l.b.toNat = l.c) l.a.toNat) (0 ≤ gd d l.a.toNat ∧ gd d l.b.toNat - gd d l.a.toNat = l.c) l.b.toNat) := by
  have hlk := hg.at hl
  have hla : l.a.toNat < R.length := by rw [h.len]; omega
  have hlb : l.b.toNat < R.length := by rw [h.len]; omega
  have m1 : ∀ (c : Prop) [Decidable c] (v w : Nat) (R' : List Bool), R'.length = R.length → v < R.length → gb (mark R' c v) w = if c ∧ w = v then true else gb R' w := fun c _ v w R' h1 h2 => by
    unfold mark
    by_cases hc : c
    · rw [if_pos hc, gb_set (by omega)]; by_cases e : w = v <;> simp [-Bool.exists_bool, hc, e]
    · rw [if_neg hc]; simp [-Bool.exists_bool, hc]
  have ml : ∀ (c : Prop) [Decidable c] (v : Nat) (R' : List Bool), (mark R' c v).length = R'.length := fun c _ v R' => by unfold mark; split <;> simp [-Bool.exists_bool]
  refine ⟨by rw [ml, ml]; exact h.len, fun v hv => ?_, fun j w v c hj s h0 h1 => ?_⟩
  · rw [m1 _ _ _ _ (ml _ _ _) hlb, m1 _ _ _ _ rfl hla] at hv
    split at hv
    · rename_i hc; rw [hc.2]; omega
    · split at hv
      · rename_i hc; rw [hc.2]; exact hc.1.1
      · exact h.up v hv
  · rw [m1 _ _ _ _ (ml _ _ _) hlb, m1 _ _ _ _ rfl hla]
    by_cases hji : j = i
    · subst hji
      obtain ⟨l', s1, s2, s3⟩ := s
      rw [hl] at s1; cases s1
      subst s3
      rcases other_cases (l := l) (n := (w : Int)) with ⟨e1, e2⟩ | ⟨_, e1, e2⟩ | ⟨_, _, e2⟩
      · have ew : l.a.toNat = w := by omega
        have ev : l.b.toNat = v := by omega
        rw [ew, ev, if_pos ⟨⟨h0, by omega⟩, rfl⟩]
      · have ew : l.b.toNat = w := by omega
        have ev : l.a.toNat = v := by omega
        rw [ew, ev]
        split
        · rfl
        · rw [if_pos ⟨⟨by omega, by omega⟩, rfl⟩]
      · omega
    · split
      · rfl
      · split
        · rfl
        · exact h.all j w v c (by omega) s h0 h1

theorem bell_links {m0 : Mem} {n0 x : Nat} {f : Int} {d : List Int} {da ra : Option Addr} {dc : Nat} (ns : NS m0 n0 x N L U la ua L.length lc U.length uc) (hv : lvalid N L U.length = true) (hf0 : 0 ≤ f) (hf : f < N) (hd : IsDist (mkG N L U) f.toNat d) (sd : Sl m0 n0 da dc (d.map vi))
    {Q : Value → Mem → Nat → Prop}
    (fin : ∀ (R : List Bool) m n, BR (mkG N L U) d L.length R → Le m0 n0 m n → Ow m n0 n tBool 1 ra R.length R.length (R.map Value.bool) → W Try.prog { fn := fLaw10SpfBellman, nt := 146, slots := [(1, vi f), (2, pp x), (5, .bool true), (6, .slice da d.length dc), (7, .slice ra R.length R.length), (12, vi 0)], todo := pt Try.prog fLaw10SpfBellman [1, 1, 1, 1, 1, 1, 1, 1, 0, 1, 0, 0] } m n Q) :
    ∀ (k i : Nat) (R : List Bool) (m : Mem) (n : Nat), i + k = L.length → BR (mkG N L U) d i R → Le m0 n0 m n → Ow m n0 n tBool 1 ra R.length R.length (R.map Value.bool) →
      W Try.prog { fn := fLaw10SpfBellman, nt := 146, slots := [(1, vi f), (2, pp x), (5, .bool true), (6, .slice da d.length dc), (7, .slice ra R.length R.length), (8, vi i)], todo := pt Try.prog fLaw10SpfBellman [1, 1, 1, 1, 1, 1, 1, 0, 1, 0, 0] } m n Q := by
  obtain ⟨hg, hl60, hN1, hN2, hul, hgN, hgX⟩ := lvalid_ok hv
  have dlen := hd.len
  intro k
  induction k with
  | zero =>
    intro i R m n h hb hle ho
    obtain rfl : i = L.length := by omega
    have gx := (ns.le hle).get
    refine W_of mixed (cfg := xcfg) (fuel := 400) ?_
    rw [xLaw10SpfBellmank0]
    exact ⟨isC_of gx, _, _, _, rd_of gx rfl, condDF (by omega) (fin R m n hb hle ho)⟩
  | succ k ih =>
    intro i R m n h hb hle ho
    have hi : i < L.length := by omega
    have ns1 := ns.le hle
    have gx := ns1.get
    have lx := ns1.lt
    have hz := zip_at (N := N) (U := U) hul hi
    have h0 := hle.le
    generalize hl : L[i] = l at hz
    have hlk := hg.at hz
    rw [hgN] at hlk
    generalize hm1 : (m.set n (.cells none tApiLink 3 [.int .i64 0, .int .i64 0, .int .i64 0])).set n (.cells none tApiLink 3 (encL l)) = ma
    have ka : ∀ j, j ≠ n → ma.get j = m.get j := fun j hj => by rw [← hm1, Tr.get_set, if_neg (fun e => hj e.symm), Tr.get_set, if_neg (fun e => hj e.symm)]
    have ga : ma.get n = some (.cells none tApiLink 3 (encL l)) := by rw [← hm1]; simp [-Bool.exists_bool, Tr.get_set]
    have hst : storeCs (m.set n (.cells none tApiLink 3 [.int .i64 0, .int .i64 0, .int .i64 0])) n 0 (encL l) = some ma := by
      have := store_of (m := m.set n (.cells none tApiLink 3 [.int .i64 0, .int .i64 0, .int .i64 0])) (b := n) (off := 0) (vs := encL l) (T := tApiLink) (sz := 3) (cs := [.int .i64 0, .int .i64 0, .int .i64 0]) (by simp [-Bool.exists_bool, Tr.get_set]) (by simp [-Bool.exists_bool]) (by simp [-Bool.exists_bool, encL, cellOk])
      rw [this, ← hm1]
      simp [-Bool.exists_bool, encL]
    have hla : Le m n ma (n + 1) := ⟨by omega, fun j hj => ka j (by omega)⟩
    have hle1 := hle.trans hla
    have nsa := ns1.le hla
    have gxa := nsa.get
    have hoa := ho.le hla
    have hw := wrapN (k := i) (by omega)
    refine W_of mixed (cfg := xcfg) (fuel := 400) ?_
    rw [xLaw10SpfBellmank0, hw]
    refine ⟨isC_of gx, _, _, _, rd_of gx rfl, condDT (by omega) ⟨isC_of gx, _, _, _, rd_of gx rfl, ns1.sl.ldv encL_len hi (by omega) fun b o s _ _ r1 => ⟨l.a, l.b, l.c, by rw [hl] at r1; exact r1, memLet.mk fun mm e => ⟨ma, by rw [e]; exact hst, isC_of gxa, _, _, _, rd_of gxa rfl, ?_⟩⟩⟩⟩
    have hiu : i < U.length := by omega
    have nxt : ∀ R' m' n', BR (mkG N L U) d (i + 1) R' → Le m0 n0 m' n' → Ow m' n0 n' tBool 1 ra R'.length R'.length (R'.map Value.bool) → W Try.prog { fn := fLaw10SpfBellman, nt := 146, slots := [(1, vi f), (2, pp x), (5, .bool true), (6, .slice da d.length dc), (7, .slice ra R'.length R'.length), (8, vi ((i + 1 : Nat) : Int))], todo := pt Try.prog fLaw10SpfBellman [1, 1, 1, 1, 1, 1, 1, 0, 1, 0, 0] } m' n' Q :=
      fun R' m' n' h1 h2 h3 => ih (i + 1) R' m' n' (by omega) h1 h2 h3
    have key := nsa.su.ldb (i := i) hiu (K := fun b => b = U[i]) rfl
    revert key
    generalize (ua) = uz
    intro key
    rcases uz with _ | ⟨b1, o1, s1⟩
    · exact key.elim
    obtain ⟨t1, b20, t2, t3⟩ := key
    refine ⟨t1, b20, t2, ?_⟩
    rw [t3]
    cases hu : U[i] with
    | false =>
      refine condT rfl (nxt R ma (n + 1) ⟨hb.len, hb.up, fun j w v c hj s => ?_⟩ hle1 hoa)
      by_cases hji : j = i
      · subst hji
        obtain ⟨l', s1, _⟩ := s
        rw [hz, hu] at s1; cases s1
      · exact hb.all j w v c (by omega) s
    | true =>
      rw [hu] at hz
      have hA : ((l.a.toNat : Nat) : Int) = l.a := by omega
      have hB : ((l.b.toNat : Nat) : Int) = l.b := by omega
      have sAB : St (mkG N L U) i l.a.toNat l.b.toNat l.c := ⟨l, hz, by rw [hA]; unfold other; rw [if_pos rfl]; omega, rfl⟩
      have sBA := sAB.symm hg
      have eAB := hd.edge _ _ _ _ sAB
      have eBA := hd.edge _ _ _ _ sBA
      have vA := hd.val l.a.toNat
      have vB := hd.val l.b.toNat
      have lA := hd.lo l.a.toNat
      have lB := hd.lo l.b.toNat
      have sda : Sl ma (n + 1) da dc (d.map vi) := sd.le hle1
      have rl := hb.len
      rw [hgN] at rl dlen
      refine condF rfl ⟨isC_of ga, _, rd_of ga rfl, ldx sda (by omega) (by omega) ⟨isC_of ga, _, rd_of ga rfl, ldx sda (by omega) (by omega) ?_⟩⟩
      have step := hb.step hg hz
      generalize gd d l.a.toNat = A at *
      generalize gd d l.b.toNat = B at *
      refine condF ?_ ?_
      · by_cases hA0 : A < 0
        · have : B < 0 := by omega
          simp [-Bool.exists_bool, hA0, this]
        · have : ¬ B < 0 := by omega
          simp [-Bool.exists_bool, hA0, this]
      have w1 : IntKind.i64.wrap (A - B) = A - B := wrap_id (by omega) (by omega)
      have w2 : IntKind.i64.wrap (B - A) = B - A := wrap_id (by omega) (by omega)
      rw [w1, w2]
      refine ⟨isC_of ga, _, rd_of ga rfl, condDF (by omega) ⟨isC_of ga, _, rd_of ga rfl, condDF (by omega) ?_⟩⟩
      -- the second mark, and on
      have ml : ∀ (c : Prop) [Decidable c] (v : Nat) (R' : List Bool), (mark R' c v).length = R'.length := fun c _ v R' => by unfold mark; split <;> simp [-Bool.exists_bool]
      have second : ∀ (R1 : List Bool) (m2 : Mem) (n2 : Nat), R1 = mark R (0 ≤ A ∧ A - B = l.c) l.a.toNat → Le m0 n0 m2 n2 → Ow m2 n0 n2 tBool 1 ra R1.length R1.length (R1.map Value.bool) → m2.get n = some (.cells none tApiLink 3 (encL l)) →
          W Try.prog { fn := fLaw10SpfBellman, nt := 146, slots := [(1, vi f), (2, pp x), (5, .bool true), (6, .slice da d.length dc), (7, .slice ra R1.length R1.length), (8, vi i), (9, pp n), (10, vi A), (11, vi B)], todo := pt Try.prog fLaw10SpfBellman [1, 1, 1, 1, 1, 1, 1, 0, 1, 0, 0, 1, 0, 0, 1, 1, 1, 1, 1, 0] } m2 n2 Q := by
        intro R1 m2 n2 hR1 hle2 ho2 g2
        have rl1 : (R1.length : Int) = N := by rw [hR1, ml]; omega
        refine W_of1 mixed (cfg := xcfg) (fuel := 400) ?_
        rw [xLaw10SpfBellmank1, hw, w2]
        refine condD (fun hA0 => ⟨isC_of g2, _, rd_of g2 rfl, condE (fun hc => ?_) fun hc => ?_⟩) fun hA0 => ?_
        · obtain ⟨b, o, s, m3, e3, p1, p2, p3, p4, p5, p6, p7⟩ := stb ho2 (x := l.b) (by omega) (by omega) true
          subst e3
          refine ⟨isC_of g2, _, rd_of g2 rfl, ⟨by omega, by omega, p3, p4⟩, m3, p5, ?_⟩
          have el : (R1.set l.b.toNat true).length = R1.length := by simp [-Bool.exists_bool]
          have es : mark R1 (0 ≤ A ∧ B - A = l.c) l.b.toNat = R1.set l.b.toNat true := by unfold mark; rw [if_pos ⟨hA0, hc⟩]
          have := nxt (R1.set l.b.toNat true) m3 n2 (by rw [← es, hR1]; exact step) ⟨hle2.le, fun q hq => by rw [p7 q (by omega)]; exact hle2.same q hq⟩ (by rw [el]; exact p6)
          rw [el] at this
          exact this
        · have es : mark R1 (0 ≤ A ∧ B - A = l.c) l.b.toNat = R1 := by unfold mark; rw [if_neg (fun h => hc h.2)]
          exact nxt R1 m2 n2 (by rw [hR1, ← hR1, ← es, hR1]; exact step) hle2 ho2
        · have es : mark R1 (0 ≤ A ∧ B - A = l.c) l.b.toNat = R1 := by unfold mark; rw [if_neg (fun h => hA0 h.1)]
          exact nxt R1 m2 n2 (by rw [hR1, ← hR1, ← es, hR1]; exact step) hle2 ho2
      refine condD (fun hA0 => ⟨isC_of ga, _, rd_of ga rfl, condE (fun hc => ?_) fun hc => ?_⟩) fun hA0 => ?_
      · obtain ⟨b2, o2, s2, m3, e3, p1, p2, p3, p4, p5, p6, p7⟩ := stb (hoa.same (n' := n + 1 + 12) (by omega) fun _ _ _ _ => rfl) (x := l.a) (by omega) (by omega) true
        subst e3
        refine ⟨isC_of ga, _, rd_of ga rfl, ⟨by omega, by omega, p3, p4⟩, m3, p5, ?_⟩
        have el : (R.set l.a.toNat true).length = R.length := by simp [-Bool.exists_bool]
        have hb2 := (ho.bnd rfl)
        have := second (R.set l.a.toNat true) m3 (n + 1 + 12) (by unfold mark; rw [if_pos ⟨hA0, hc⟩]) ⟨by omega, fun q hq => by rw [p7 q (by omega)]; exact hle1.same q hq⟩ (by rw [el]; exact p6) (by rw [p7 n (by omega)]; exact ga)
        rw [el] at this
        exact this
      · exact second R ma (n + 1 + 12) (by unfold mark; rw [if_neg (fun h => hc h.2)]) (hle1.up (by omega)) (hoa.same (by omega) fun _ _ _ _ => rfl) ga
      · exact second R ma (n + 1 + 12) (by unfold mark; rw [if_neg (fun h => hA0 h.1)]) (hle1.up (by omega)) (hoa.same (by omega) fun _ _ _ _ => rfl) ga
theorem bell_nodes {m0 : Mem} {n0 x : Nat} {f : Int} {d : List Int} {da ra : Option Addr} {dc rc : Nat} {R : List Bool} (ns : NS m0 n0 x N L U la ua L.length lc U.length uc) (hv : lvalid N L U.length = true) (hf0 : 0 ≤ f) (hf : f < N) (hd : IsDist (mkG N L U) f.toNat d) (sd : Sl m0 n0 da dc (d.map vi)) (hb : BR (mkG N L U) d L.length R) (sr : Sl m0 n0 ra rc (R.map Value.bool))
    {Q : Value → Mem → Nat → Prop} (hq : ∀ n', Q (.bool true) m0 n') :
    ∀ (k i : Nat) (n : Nat), i + k = N.toNat → n0 ≤ n → W Try.prog { fn := fLaw10SpfBellman, nt := 146, slots := [(1, vi f), (2, pp x), (5, .bool true), (6, .slice da d.length dc), (7, .slice ra R.length rc), (12, vi i)], todo := pt Try.prog fLaw10SpfBellman [1, 1, 1, 1, 1, 1, 1, 1, 0, 1, 0, 0] } m0 n Q := by
  obtain ⟨hg, hl60, hN1, hN2, hul, hgN, hgX⟩ := lvalid_ok hv
  have dlen := hd.len
  have rlen := hb.len
  rw [hgN] at dlen rlen
  intro k
  induction k with
  | zero =>
    intro i n h hn
    refine W_of mixed (cfg := xcfg) (fuel := 400) ?_
    rw [xLaw10SpfBellmank2]
    exact ⟨isC_of ns.get, _, rd_of ns.get rfl, condDF (by omega) (hq n)⟩
  | succ k ih =>
    intro i n h hn
    have nxt := ih (i + 1) (n + 22) (by omega) (by omega)
    rw [← wrapN (k := i) (by omega)] at nxt
    have sd' : Sl m0 n da dc (d.map vi) := sd.same hn fun _ _ _ _ => rfl
    have sr' : Sl m0 n ra rc (R.map Value.bool) := sr.same hn fun _ _ _ _ => rfl
    have hlo := hd.lo (i : Int).toNat
    refine W_of mixed (cfg := xcfg) (fuel := 400) ?_
    rw [xLaw10SpfBellmank2]
    refine ⟨isC_of ns.get, _, rd_of ns.get rfl, condDT (by omega) (condN (fun hne => ?_) fun he => ?_)⟩
    · refine ldx sd' (by omega) (by omega) (ldxb sr' (by omega) (by omega) (condF ?_ (ldx sd' (by omega) (by omega) (condDF (by omega) nxt))))
      have hiff : 0 ≤ gd d (i : Int).toNat ↔ gb R (i : Int).toNat = true := by
        constructor
        · intro h0
          rcases hd.back _ h0 with e | ⟨j, w, c, s, h1, h2⟩
          · omega
          · exact hb.all j w _ c (by have := (s.bnd hg).2.2.2.2.2; rw [hgX] at this; simp [-Bool.exists_bool] at this; omega) s h1 h2
        · exact hb.up _
      have e : decide (gd d (i : Int).toNat ≥ 0) = gb R (i : Int).toNat := by
        cases hgb : gb R (i : Int).toNat with
        | true => exact decide_eq_true (hiff.2 hgb)
        | false => exact decide_eq_false fun h => by rw [hiff.1 h] at hgb; cases hgb
      rw [e]; simp [-Bool.exists_bool]
    · exact ldx sd' (by omega) (by omega) (condDF (by omega) nxt)
theorem bellman_law {f : Int} (hL : Sl m n la lc (L.flatMap encL)) (hU : Sl m n ua uc (U.map Value.bool)) {Q : Value → Mem → Nat → Prop} (hq : ∀ m' n', Q (.bool true) m' n') :
    Wc Try.prog fLaw10SpfBellman [netV N la L.length lc ua U.length uc, vi f] m n Q := by
  refine Wc_of mixed (cfg := xcfg) (fuel := 400) ?_
  rw [xLaw10SpfBellman]
  refine memLet.mk fun m0 e => ?_
  have ns0 : NS m0 (n + 1) n N L U la ua L.length lc U.length uc := by rw [e]; exact ns_new hL hU
  clear e
  refine known_c ⟨_, rfl, Later.mk ⟨_, _, _, _, _, _, _, rds_of ns0.get, lvalid_c ns0.hl ns0.sl ⟨_, rfl, Later.mk ?_⟩⟩⟩
  refine condB (fun _ => hq _ _) fun hv => ?_
  have hv : lvalid N L U.length = true := by simpa [-Bool.exists_bool] using hv
  obtain ⟨hg, hl60, hN1, hN2, hul, hgN, hgX⟩ := lvalid_ok hv
  have ga := ns0.get
  have ba := pickM_bnd (x := f) (n := N) (by omega)
  refine ⟨isC_of ga, _, rd_of ga rfl, pick_c (by omega) (by omega) ⟨_, rfl, Later.mk ?_⟩⟩
  generalize pickM f N = f' at *
  obtain ⟨m1, n1, pa, d, hd, hdl, ow1, le1, _, run1⟩ := ns0.vdist hv ba.1 ba.2
  have ns1 := ns0.le le1
  have g1 := ns1.get
  have lx := ns1.lt
  have l1 := le1.le
  refine ⟨_, _, _, _, _, _, _, rds_of ga, run1 _ ⟨_, _, _, rfl, Later.mk ⟨isC_of g1, _, rd_of g1 rfl, condNF hdl ?_⟩⟩⟩
  refine ldx ow1.sl ba.1 (by omega) (condNF hd.src ⟨isC_of g1, _, rd_of g1 rfl, ⟨by omega, by omega, by omega⟩, memLet.mk fun m2 e => ?_⟩)
  have hrl : (List.replicate N.toNat false).length = N.toNat := by simp [-Bool.exists_bool]
  have hfl : (List.replicate N.toNat [Value.bool false]).flatten = (List.replicate N.toNat false).map Value.bool := by simp [-Bool.exists_bool]
  rw [hfl] at e
  have le2 : Le m1 n1 m2 (n1 + 1) := by rw [e]; exact Le.new
  have ow2 : Ow m2 n1 (n1 + 1) tBool 1 (some ⟨n1, 0, none⟩) (List.replicate N.toNat false).length (List.replicate N.toNat false).length ((List.replicate N.toNat false).map Value.bool) := by rw [e]; exact Ow.new (Nat.le_refl _) (by simp [-Bool.exists_bool])
  have br0 : BR (mkG N L U) d 0 (List.replicate N.toNat false) := ⟨by rw [hgN]; simp, fun v hv => by
    unfold gb at hv
    rw [List.getElem?_replicate] at hv
    split at hv <;> simp [-Bool.exists_bool] at hv, fun j w v c hj => by omega⟩
  have key := bell_links (x := n) (ns1) hv ba.1 ba.2 hd ow1.sl (ra := some ⟨n1, 0, none⟩) (Q := Q) (fun R m3 n3 hb hle ho => by
    have := bell_nodes (ns1.le hle) hv ba.1 ba.2 hd (ow1.sl.le hle) hb ho.sl (Q := Q) (fun n' => hq _ _) N.toNat 0 n3 (by omega) (Nat.le_refl _)
    exact this) L.length 0 (List.replicate N.toNat false) m2 (n1 + 1) (by omega) br0 le2 ow2
  rw [hrl] at key
  exact key
end
end Go.Proofs.Ytenpbdanffacjaa

namespace Go.Proofs.Ytenpbdanffacjaa
open Go Go.Ab Spf
section
variable {m m' : Mem} {n n' : Nat} {N : Int} {L : List Lk} {U : List Bool} {la ua : Option Addr} {ll lc ul uc : Nat}
/-- A link in its slice: all that is loaded of it. -/
theorem lnk (h : Sl m n la lc (L.flatMap encL)) {i : Nat} (hi : i < L.length) : ∃ b o s, la = some ⟨b, o, s⟩ ∧ liveAt m b = true ∧ (s ≠ none → 0 < lc) ∧ isC m b = true ∧ rds m b (offOf o s + i * 3) 3 = some (encL L[i]) ∧
    rd m b (offOf o s + i * 3) = some (vi L[i].a) ∧ rd m b (offOf o s + i * 3 + 1) = some (vi L[i].b) ∧ rd m b (offOf o s + i * 3 + 2) = some (vi L[i].c) := by
  have key := h.ldv encL_len hi (by omega) (K := fun b o s => isC m b = true ∧ rds m b (offOf o s + i * 3) 3 = some (encL L[i]) ∧ rd m b (offOf o s + i * 3) = some (vi L[i].a) ∧ rd m b (offOf o s + i * 3 + 1) = some (vi L[i].b) ∧ rd m b (offOf o s + i * 3 + 2) = some (vi L[i].c))
    fun b o s h1 h2 h3 => ⟨h1, h3, h2 0 _ rfl, h2 1 _ rfl, h2 2 _ rfl⟩
  rcases la with _ | ⟨b, o, s⟩
  · exact key.elim
  · obtain ⟨⟨_, _, h1, h2⟩, h3, h4, h5, h6, h7⟩ := key
    exact ⟨b, o, s, rfl, h1, h2, h3, h4, h5, h6, h7⟩
theorem next_ne {g : G} (hg : g.Ok) {t : Nat} {d : List Int} (hd : IsDist g t d) {v : Nat} (hv : v ≠ t) : nextL g d v ≠ [] ↔ 0 ≤ gd d v := by
  constructor
  · intro h
    obtain ⟨x, r, hx⟩ := List.exists_cons_of_ne_nil h
    obtain ⟨i, w, c, _, s, h1, h2⟩ := next_st.1 (show x ∈ nextL g d v by rw [hx]; simp [-Bool.exists_bool])
    have := s.bnd hg; omega
  · intro h
    rcases hd.back v h with e | ⟨i, x, c, s, h1, h2⟩
    · exact (hv e).elim
    · have : (i : Int) ∈ nextL g d v := next_st.2 ⟨i, x, c, rfl, s.symm hg, h1, by omega⟩
      intro e; rw [e] at this; cases this
theorem next_end {g : G} (hg : g.Ok) {t : Nat} {d : List Int} (hd : IsDist g t d) : nextL g d t = [] := by
  cases h : nextL g d t with
  | nil => rfl
  | cons x r =>
    obtain ⟨i, w, c, _, s, h1, h2⟩ := next_st.1 (show x ∈ nextL g d t by rw [h]; simp [-Bool.exists_bool])
    have := s.bnd hg
    rw [hd.src] at h2; omega
theorem next_len {g : G} (hg : g.Ok) {d : List Int} {v : Nat} : (nextL g d v).length ≤ 128 := by
  have := nextGo_len (d := d) (f := v) g.X 0
  have := hg.many
  unfold nextL; omega
/-- A step, said of the lists. -/
theorem st_lists (hul : U.length = L.length) {i u v : Nat} {c : Int} (s : St (mkG N L U) i u v c) : ∃ (hi : i < L.length) (hu : i < U.length), U[i] = true ∧ L[i].c = c ∧ other L[i] u = v := by
  obtain ⟨l, s1, s2, s3⟩ := s
  simp only [mkG, List.getElem?_zip_eq_some] at s1
  obtain ⟨h1, h2⟩ := s1
  obtain ⟨hi, e1⟩ := List.getElem?_eq_some_iff.1 h1
  obtain ⟨hu, e2⟩ := List.getElem?_eq_some_iff.1 h2
  exact ⟨hi, hu, e2, by rw [e1]; exact s3, by rw [e1]; exact s2⟩
theorem other_of {l : Lk} {u v : Nat} (h : other l u = v) : (l.a = u ∧ l.b = v ∧ (if l.a = (u : Int) then l.b else l.a) = v) ∨ (l.a ≠ u ∧ l.b = u ∧ (if l.a = (u : Int) then l.b else l.a) = v) := by
  rcases other_cases (l := l) (n := (u : Int)) with ⟨h1, h2⟩ | ⟨h1, h2, h3⟩ | ⟨h1, h2, h3⟩
  · exact .inl ⟨h1.symm, by omega, by rw [if_pos h1.symm]; omega⟩
  · exact .inr ⟨fun e => h1 e.symm, h2.symm, by rw [if_neg (fun e => h1 e.symm)]; omega⟩
  · omega

structure WkI (g : G) (d : List Int) (f : Nat) (v : Nat) (len k : Int) (R : List Bool) : Prop where
  rl : R.length = g.N
  vN : v < g.N
  or : v = f ∨ 0 ≤ gd d v
  len : len = gd d f - gd d v
  k0 : 0 ≤ k
  kb : k ≤ gd d f - gd d v
  seen : ∀ w, gb R w = true → gd d v < gd d w
theorem walk_loop {m0 : Mem} {n0 x : Nat} {f t : Int} {d : List Int} {da ra ta : Option Addr} {dc tc : Nat} {T : List Int} (hT : T.length ≤ 9223372036854775807) (ns : NS m0 n0 x N L U la ua L.length lc U.length uc) (hv : lvalid N L U.length = true) (hf0 : 0 ≤ f) (hf : f < N) (ht0 : 0 ≤ t) (ht : t < N)
    (hd : IsDist (mkG N L U) t.toNat d) (sd : Sl m0 n0 da dc (d.map vi)) (sT : Sl m0 n0 ta tc (T.map vi)) {Q : Value → Mem → Nat → Prop} (hq : ∀ m' n', Q (.bool true) m' n') :
    ∀ (j : Nat) (v : Nat) (len k : Int) (R : List Bool) (m : Mem) (n : Nat), gd d v < j → WkI (mkG N L U) d f.toNat v len k R → Le m0 n0 m n → Ow m n0 n tBool 1 ra R.length R.length (R.map Value.bool) →
      W Try.prog { fn := fLaw10SpfWalk, nt := 166, slots := [(1, vi f), (2, vi t), (3, .slice ta T.length tc), (4, pp x), (9, .bool true), (10, .slice da d.length dc), (11, .slice ra R.length R.length), (12, vi v), (13, vi len), (14, vi k)], todo := pt Try.prog fLaw10SpfWalk [1, 1, 1, 1, 1, 1, 1, 1, 0, 1, 0, 0] } m n Q := by
  obtain ⟨hg, hl60, hN1, hN2, hul, hgN, hgX⟩ := lvalid_ok hv
  have dlen := hd.len
  rw [hgN] at dlen
  intro j
  induction j with
  | zero =>
    intro v len k R m n hj I hle ho
    -- a node that is not reached: it is the first one, and nothing leads on
    have hvf : v = f.toNat := by rcases I.or with h | h; (· exact h); (· omega)
    have hvt : v ≠ t.toNat := by rintro rfl; rw [hd.src] at hj; omega
    have hnil : nextL (mkG N L U) d v = [] := by
      cases hc : nextL (mkG N L U) d v with
      | nil => rfl
      | cons a r => have := (next_ne hg hd hvt).1 (by rw [hc]; simp [-Bool.exists_bool]); omega
    have vN := I.vN
    rw [hgN] at vN
    have ns1 := ns.le hle
    obtain ⟨m1, n1, a, d', hd', ow1, le1, _, run1⟩ := ns1.vnext hv (f := (v : Int)) (t := t) (by omega) (by omega) ht0 ht
    obtain rfl := hd'.uniq hg hd
    rw [show ((v : Int).toNat) = v by omega, hnil] at ow1 run1
    have rl := I.rl
    rw [hgN] at rl
    have hsn : gb R v ≠ true := fun h => by have := I.seen v h; omega
    refine W_of mixed (cfg := xcfg) (fuel := 400) ?_
    rw [xLaw10SpfWalkk0]
    refine condNT (by omega) ⟨_, _, _, _, _, _, _, rds_of ns1.get, run1 _ ⟨_, _, _, rfl, Later.mk ?_⟩⟩
    refine ldx (sd.le (hle.trans le1)) (by omega) (by omega) (condF ?_ (ldxb (ho.sl.le le1) (by omega) (by omega) ?_))
    · have : ¬ gd d' (v : Int).toNat ≥ 0 := by rw [show ((v : Int).toNat) = v by omega]; omega
      rw [decide_eq_false this]; rfl
    · rw [show ((v : Int).toNat) = v by omega]
      cases hgb : gb R v with
      | true => exact (hsn hgb).elim
      | false =>
        refine condF rfl (condET rfl (condT rfl ?_))
        have : ((v : Int) == f) = true := by simp; omega
        rw [this]; exact hq _ _
  | succ j ih =>
    intro v len k R m n hj I hle ho
    have vN := I.vN
    rw [hgN] at vN
    have ns1 := ns.le hle
    have rl := I.rl
    rw [hgN] at rl
    have hvv : ((v : Int).toNat) = v := by omega
    by_cases hvt : v = t.toNat
    · -- the end
      have hlen := I.len
      obtain ⟨m1, n1, a, d', hd', ow1, le1, _, run1⟩ := ns1.vnext hv (f := t) (t := t) ht0 ht ht0 ht
      obtain rfl := hd'.uniq hg hd
      rw [next_end hg hd] at run1
      refine W_of mixed (cfg := xcfg) (fuel := 400) ?_
      rw [xLaw10SpfWalkk0]
      refine condNF (by omega) (condT rfl (ldx (sd.le hle) hf0 (by omega) (condET ?_ ⟨_, _, _, _, _, _, _, rds_of ns1.get, run1 _ ⟨_, _, _, rfl, Later.mk (hq _ _)⟩⟩)))
      rw [hlen, hvt, hd.src]; omega
    · obtain ⟨m1, n1, a, d', hd', ow1, le1, _, run1⟩ := ns1.vnext hv (f := (v : Int)) (t := t) (by omega) (by omega) ht0 ht
      obtain rfl := hd'.uniq hg hd
      rw [hvv] at ow1 run1
      have hle1 := hle.trans le1
      have ns2 := ns1.le le1
      have ho1 := ho.le le1
      have h0 := hle.le
      have l1 := le1.le
      have hsn : gb R v ≠ true := fun h => by have := I.seen v h; omega
      have hne := next_ne hg hd hvt
      refine W_of mixed (cfg := xcfg) (fuel := 400) ?_
      rw [xLaw10SpfWalkk0]
      refine condNT (by omega) ⟨_, _, _, _, _, _, _, rds_of ns1.get, run1 _ ⟨_, _, _, rfl, Later.mk ?_⟩⟩
      refine ldx (sd.le hle1) (by omega) (by omega) ?_
      rw [hvv]
      have hcmp : decide (((nextL (mkG N L U) d' v).length : Int) > 0) = decide (gd d' v ≥ 0) := by
        by_cases h : 0 ≤ gd d' v
        · have := List.length_pos_iff.2 (hne.2 h)
          rw [decide_eq_true (by omega), decide_eq_true h]
        · have : ¬ 0 < (nextL (mkG N L U) d' v).length := fun h' => h (hne.1 (List.length_pos_iff.1 h'))
          rw [decide_eq_false (by omega), decide_eq_false h]
      refine condF (by rw [hcmp]; simp [-Bool.exists_bool]) (ldxb ho1.sl (by omega) (by omega) ?_)
      rw [hvv]
      cases hgb : gb R v with
      | true => exact (hsn hgb).elim
      | false =>
      refine condF rfl (condE (fun hz => ?_) fun hz => ?_)
      · -- no way on: only from the first one
        have hun : ¬ 0 ≤ gd d' v := fun h => by have := List.length_pos_iff.2 (hne.2 h); omega
        have hvf : v = f.toNat := by rcases I.or with h | h; (· exact h); (· exact (hun h).elim)
        refine condT rfl ?_
        have : ((v : Int) == f) = true := by simp; omega
        rw [this]; exact hq _ _
      have hpos : 0 < (nextL (mkG N L U) d' v).length := by omega
      have hreach : 0 ≤ gd d' v := hne.1 (List.length_pos_iff.1 hpos)
      obtain ⟨bb, oo, ss, m2, eo, p1, p2, p3, p4, p5, p6, p7⟩ := stb ho1 (x := (v : Int)) (by omega) (by omega) true
      subst eo
      have hbx := (ho.bnd rfl)
      have hle2 : Le m0 n0 m2 n1 := ⟨by omega, fun q hq => by rw [p7 q (by omega)]; exact hle1.same q hq⟩
      have ns3 := ns.le hle2
      have ow2 : Sl m2 n1 a (nextL (mkG N L U) d' v).length ((nextL (mkG N L U) d' v).map vi) := ow1.sl.same (Nat.le_refl _) fun b o s e => p7 b (by have := (ow1.bnd e).1; omega)
      have hnl := next_len (g := mkG N L U) hg (d := d') (v := v)
      have rl1 : (R.set v true).length = R.length := by simp [-Bool.exists_bool]
      rw [hvv] at p6
      -- the choice
      have choose : ∀ tt : Int, W Try.prog { fn := fLaw10SpfWalk, nt := 166, slots := [(1, vi f), (2, vi t), (3, .slice ta T.length tc), (4, pp x), (9, .bool true), (10, .slice da d'.length dc), (11, .slice (some ⟨bb, oo, ss⟩) R.length R.length), (12, vi v), (13, vi len), (14, vi k), (15, .slice a (nextL (mkG N L U) d' v).length (nextL (mkG N L U) d' v).length), (16, vi tt)], todo := pt Try.prog fLaw10SpfWalk [1, 1, 1, 1, 1, 1, 1, 1, 0, 1, 0, 0, 1, 0, 0, 1, 1, 1, 1, 1, 1, 0] } m2 n1 Q := by
        intro tt
        refine W_of1 mixed (cfg := xcfg) (fuel := 400) ?_
        rw [xLaw10SpfWalkk1]
        have bp := pickM_bnd (x := tt) (n := ((nextL (mkG N L U) d' v).length : Int)) (by omega)
        refine pick_c (by omega) (by omega) ⟨_, rfl, Later.mk ?_⟩
        generalize pickM tt ((nextL (mkG N L U) d' v).length : Int) = pk at *
        have hpk : pk.toNat < (nextL (mkG N L U) d' v).length := by omega
        have hmem : (nextL (mkG N L U) d' v)[pk.toNat] ∈ nextL (mkG N L U) d' v := List.getElem_mem hpk
        have hgd : gd (nextL (mkG N L U) d' v) pk.toNat = (nextL (mkG N L U) d' v)[pk.toNat] := (gd_get hpk).symm
        refine ldx ow2 bp.1 (by omega) ?_
        rw [hgd]
        obtain ⟨i, w, c, ei, s, hw0, hw1⟩ := next_st.1 hmem
        rw [ei]
        have sb := s.bnd hg
        obtain ⟨hi, hui, hup, hcc, hot⟩ := st_lists hul s
        obtain ⟨b, o, s', e, q1, q2, q3, q4, q5, q6, q7⟩ := lnk ns3.sl hi
        have gx := ns3.get
        refine condDF (by omega) ⟨isC_of gx, _, _, _, rd_of gx rfl, condDF (by omega) ⟨isC_of gx, _, _, _, rd_of gx rfl, ns3.su.ldb hui ?_⟩⟩
        rw [hup]
        rw [e] at gx
        have nxt := ih w (len + c) (k + 1) (R.set v true) m2 (n1 + 17) (by omega) ⟨by simp [-Bool.exists_bool, I.rl], sb.2.1, .inr hw0, by rw [I.len]; omega, by have := I.k0; omega, by have := I.kb; omega, fun z hz => by
          rw [gb_set (by omega)] at hz
          split at hz
          · rename_i e; subst e; omega
          · have := I.seen z hz; omega⟩ (hle2.up (by omega)) (by rw [rl1]; exact p6.same (by omega) fun _ _ _ _ => rfl)
        rw [rl1] at nxt
        have hk := I.kb
        have hk0 := I.k0
        have hvf := hd.val f.toNat
        have hln := I.len
        have hlv := hd.lo v
        have hlf := hd.lo f.toNat
        have w1 : IntKind.i64.wrap (len + L[i].c) = len + c := by rw [hcc]; exact wrap_id (by omega) (by omega)
        have w2 : IntKind.i64.wrap (k + 1) = k + 1 := wrap_id (by omega) (by omega)
        have bnd : 0 ≤ (i : Int) ∧ (i : Int) < (L.length : Int) ∧ liveAt m2 b = true ∧ (s' ≠ none → 0 < lc) := ⟨by omega, by omega, q1, q2⟩
        refine condF rfl ⟨isC_of gx, _, _, _, rd_of gx rfl, bnd, q3, _, q5, ?_⟩
        rcases other_of hot with ⟨o1, o2, o3⟩ | ⟨o1, o2, o3⟩
        · refine condNF o1 ⟨isC_of gx, _, _, _, rd_of gx rfl, bnd, _, _, _, q4, _, _, _, lother_c (l := L[i]) ⟨rfl, rfl, rfl⟩, Later.mk ⟨isC_of gx, _, _, _, rd_of gx rfl, bnd, q3, _, q7, rfl, ⟨_, q7, rfl⟩, ⟨q3, rfl⟩, ⟨bnd, rfl⟩, ⟨_, _, _, rd_of gx rfl, rfl⟩, ⟨isC_of gx, rfl⟩, Nat.le_refl _, ?_⟩⟩
          rw [o3, w1, w2]; exact nxt
        · refine condNT o1 ⟨isC_of gx, _, _, _, rd_of gx rfl, bnd, q3, _, q6, condNF o2 ⟨isC_of gx, _, _, _, rd_of gx rfl, bnd, _, _, _, q4, _, _, _, lother_c (l := L[i]) ⟨rfl, rfl, rfl⟩, Later.mk ⟨isC_of gx, _, _, _, rd_of gx rfl, bnd, q3, _, q7, rfl, ⟨_, q7, rfl⟩, ⟨q3, rfl⟩, ⟨bnd, rfl⟩, ⟨_, _, _, rd_of gx rfl, rfl⟩, ⟨isC_of gx, rfl⟩, Nat.le_refl _, ?_⟩⟩⟩
          rw [o3, w1, w2]; exact nxt
      refine ⟨⟨by omega, by omega, p3, p4⟩, m2, p5, condD (fun htl => ⟨by omega, ?_⟩) fun _ => choose k⟩
      have b1 := Int.tmod_lt_of_pos k (show (0 : Int) < (T.length : Int) by omega)
      have b2 := Int.tmod_nonneg (T.length : Int) I.k0
      exact ldx (sT.le hle2) b2 b1 (choose _)
theorem walk_law {f t : Int} {T : List Int} {ta : Option Addr} {tc : Nat} (hT : T.length ≤ 9223372036854775807) (sT : Sl m n ta tc (T.map vi)) (hL : Sl m n la lc (L.flatMap encL)) (hU : Sl m n ua uc (U.map Value.bool)) {Q : Value → Mem → Nat → Prop} (hq : ∀ m' n', Q (.bool true) m' n') :
    Wc Try.prog fLaw10SpfWalk [netV N la L.length lc ua U.length uc, vi f, vi t, .slice ta T.length tc] m n Q := by
  refine Wc_of mixed (cfg := xcfg) (fuel := 400) ?_
  rw [xLaw10SpfWalk]
  refine memLet.mk fun m0 e => ?_
  have ns0 : NS m0 (n + 1) n N L U la ua L.length lc U.length uc := by rw [e]; exact ns_new hL hU
  have sT0 : Sl m0 (n + 1) ta tc (T.map vi) := by rw [e]; exact sT.le Le.new
  clear e
  refine known_c ⟨_, rfl, Later.mk ⟨_, _, _, _, _, _, _, rds_of ns0.get, lvalid_c ns0.hl ns0.sl ⟨_, rfl, Later.mk ?_⟩⟩⟩
  refine condB (fun _ => hq _ _) fun hv => ?_
  have hv : lvalid N L U.length = true := by simpa [-Bool.exists_bool] using hv
  obtain ⟨hg, hl60, hN1, hN2, hul, hgN, hgX⟩ := lvalid_ok hv
  have ga := ns0.get
  have ba := pickM_bnd (x := f) (n := N) (by omega)
  have bb := pickM_bnd (x := t) (n := N) (by omega)
  refine ⟨isC_of ga, _, rd_of ga rfl, _, _, _, pick_c (by omega) (by omega) ⟨rfl, rfl, rfl⟩, Later.mk ⟨isC_of ga, _, rd_of ga rfl, _, _, _, pick_c (by omega) (by omega) ⟨rfl, rfl, rfl⟩, Later.mk ⟨⟨_, rd_of ga rfl, rfl⟩, ⟨isC_of ga, rfl⟩, Nat.le_refl _, Nat.le_refl _, ?_⟩⟩⟩
  generalize pickM f N = f' at *
  generalize pickM t N = t' at *
  have ns1 : NS m0 (n + 1 + 10) n N L U la ua L.length lc U.length uc := ns0.le (Le.refl.up (by omega))
  obtain ⟨m1, n1, pa, d, hd, hdl, ow1, le1, _, run1⟩ := ns1.vdist hv bb.1 bb.2
  have ns2 := ns1.le le1
  have g1 := ns2.get
  refine ⟨_, _, _, _, _, _, _, rds_of ga, run1 _ ⟨_, _, _, rfl, Later.mk ⟨isC_of g1, _, rd_of g1 rfl, condNF hdl ⟨isC_of g1, _, rd_of g1 rfl, ⟨by omega, by omega, by omega⟩, memLet.mk fun m2 e => ?_⟩⟩⟩⟩
  have hrl : (List.replicate N.toNat false).length = N.toNat := by simp [-Bool.exists_bool]
  have hfl : (List.replicate N.toNat [Value.bool false]).flatten = (List.replicate N.toNat false).map Value.bool := by simp [-Bool.exists_bool]
  rw [hfl] at e
  have le2 : Le m1 n1 m2 (n1 + 1) := by rw [e]; exact Le.new
  have ow2 : Ow m2 n1 (n1 + 1) tBool 1 (some ⟨n1, 0, none⟩) (List.replicate N.toNat false).length (List.replicate N.toNat false).length ((List.replicate N.toNat false).map Value.bool) := by rw [e]; exact Ow.new (Nat.le_refl _) (by simp [-Bool.exists_bool])
  have nog : ∀ w, gb (List.replicate N.toNat false) w ≠ true := fun w h => by
    unfold gb at h
    rw [List.getElem?_replicate] at h
    split at h <;> simp [-Bool.exists_bool] at h
  have key := walk_loop (ra := some ⟨n1, 0, none⟩) hT ns2 hv ba.1 ba.2 bb.1 bb.2 hd ow1.sl ((sT0.same (n' := n + 1 + 10) (by omega) fun _ _ _ _ => rfl).le le1) hq ((gd d f'.toNat).toNat + 1) f'.toNat 0 0 (List.replicate N.toNat false) m2 (n1 + 1) (by omega)
    ⟨by rw [hgN]; simp, by rw [hgN]; omega, .inl rfl, by omega, by omega, by omega, fun w h => (nog w h).elim⟩ le2 ow2
  rw [hrl, show ((f'.toNat : Nat) : Int) = f' by omega] at key
  exact key
end
end Go.Proofs.Ytenpbdanffacjaa

/- Distances by rounds over the links, plain. -/
namespace Spf
def wt (x : Int) : Nat := if x < 0 then 40000 else x.toNat
def mu (d : List Int) : Nat := (d.map wt).sum
theorem mu_set : ∀ {d : List Int} {v : Nat} {k : Int}, v < d.length → wt k < wt (gd d v) → mu (d.set v k) < mu d
  | [], v, k, h, _ => by simp [-Bool.exists_bool] at h
  | x :: d, 0, k, _, h => by
    have : gd (x :: d) 0 = x := by simp [-Bool.exists_bool, gd]
    rw [this] at h
    simp [-Bool.exists_bool, mu]; omega
  | x :: d, v + 1, k, hv, h => by
    have e : gd (x :: d) (v + 1) = gd d v := by simp [-Bool.exists_bool, gd]
    rw [e] at h
    have := mu_set (d := d) (v := v) (k := k) (by simpa [-Bool.exists_bool] using hv) h
    simp only [mu, List.set_cons_succ, List.map_cons, List.sum_cons] at this ⊢
    omega
theorem cnt_same {d : List Int} {v : Nat} {k : Int} (hv : v < d.length) (h : 0 ≤ gd d v) (hk : 0 ≤ k) : cnt (d.set v k) = cnt d := by
  unfold cnt
  rw [List.countP_set hv]
  have h1 : d[v] = gd d v := gd_get hv
  rw [h1]
  have hp : 0 < List.countP (fun x => decide (0 ≤ x)) d := List.countP_pos_iff.2 ⟨d[v], List.getElem_mem hv, by rw [h1]; simpa [-Bool.exists_bool] using h⟩
  simp [-Bool.exists_bool, h, hk]; omega
structure BI (g : G) (f : Nat) (d : List Int) : Prop where
  len : d.length = g.N
  inb : f < g.N
  lo : ∀ v, -1 ≤ gd d v
  src : gd d f = 0
  back : ∀ v, 0 ≤ gd d v → v = f ∨ ∃ i x c, St g i x v c ∧ 0 ≤ gd d x ∧ gd d x + c ≤ gd d v
  val : ∀ v, 0 ≤ gd d v → gd d v + 1000 ≤ 1000 * cnt d
theorem BI.cap {g : G} (hg : g.Ok) {f : Nat} {d : List Int} (h : BI g f d) (v : Nat) : gd d v ≤ 32000 := by
  by_cases h0 : 0 ≤ gd d v
  · have h1 := h.val v h0
    have h2 := cnt_le d
    have h3 := h.len
    have h4 := hg.big
    omega
  · omega
theorem BI.start {g : G} (hg : g.Ok) {f : Nat} (hf : f < g.N) : BI g f ((List.replicate g.N (-1)).set f 0) := by
  have hl : f < (List.replicate g.N (-1 : Int)).length := by simpa [-Bool.exists_bool] using hf
  have hr : ∀ v, gd (List.replicate g.N (-1)) v = -1 := fun v => by
    unfold gd
    rw [List.getElem?_replicate]
    split <;> rfl
  have hs : ∀ v, gd ((List.replicate g.N (-1)).set f 0) v = if v = f then 0 else -1 := fun v => by rw [gd_set hl, hr]
  have hc : cnt ((List.replicate g.N (-1)).set f 0) = cnt (List.replicate g.N (-1 : Int)) + 1 := cnt_set hl (by rw [hr]; omega) (Int.le_refl _)
  refine ⟨by simp, hf, fun v => by rw [hs]; split <;> omega, by rw [hs, if_pos rfl], fun v hv => ?_, fun v hv => ?_⟩
  · rw [hs] at hv
    split at hv
    · rename_i e; exact .inl e
    · omega
  · rw [hs] at hv ⊢
    rw [hc]
    split at hv
    · rename_i e; rw [if_pos e]; omega
    · omega
/-- A link that tells of a shorter way. -/
theorem BI.relax {g : G} (hg : g.Ok) {f : Nat} {d : List Int} (h : BI g f d) {i x y : Nat} {c : Int} (s : St g i x y c) (hx : 0 ≤ gd d x) (hy : gd d y < 0 ∨ gd d y > gd d x + c) : BI g f (d.set y (gd d x + c)) ∧ mu (d.set y (gd d x + c)) < mu d := by
  have sb := s.bnd hg
  have hyl : y < d.length := by rw [h.len]; exact sb.2.1
  have hset := fun w => gd_set (w := w) (k := gd d x + c) hyl
  have hyf : f ≠ y := by rintro rfl; have := h.src; omega
  have hvx := h.val x hx
  have hcap := h.cap hg x
  refine ⟨⟨by simpa [-Bool.exists_bool] using h.len, h.inb, fun v => ?_, by rw [hset, if_neg hyf]; exact h.src, fun v hv => ?_, fun v hv => ?_⟩, mu_set hyl ?_⟩
  · rw [hset]; split
    · omega
    · exact h.lo v
  · rw [hset] at hv
    have wit : ∀ z, gd (d.set y (gd d x + c)) z ≤ gd d z ∨ gd d z < 0 := fun z => by
      rw [hset]; split
      · rename_i e; subst e; omega
      · omega
    by_cases e : v = y
    · subst e
      exact .inr ⟨i, x, c, s, by rw [hset, if_neg sb.2.2.1]; exact hx, by rw [hset, hset, if_pos rfl, if_neg sb.2.2.1]; omega⟩
    · rw [if_neg e] at hv
      rcases h.back v hv with h1 | ⟨j, z, c', s', h1, h2⟩
      · exact .inl h1
      · refine .inr ⟨j, z, c', s', ?_, ?_⟩
        · rw [hset]; split
          · omega
          · exact h1
        · have := wit z
          rw [hset (w := v), if_neg e]; omega
  · rw [hset] at hv ⊢
    by_cases hyn : gd d y < 0
    · rw [cnt_set hyl hyn (by omega)]
      split
      · omega
      · rename_i e; rw [if_neg e] at hv; have := h.val v hv; omega
    · rw [cnt_same hyl (by omega) (by omega)]
      split
      · have := h.val y (by omega); omega
      · rename_i e; rw [if_neg e] at hv; exact h.val v hv
  · unfold wt
    rw [if_neg (by omega)]
    split
    · omega
    · omega
/-- A link is at rest. -/
def Rest (g : G) (d : List Int) (i : Nat) : Prop := ∀ x y c, St g i x y c → 0 ≤ gd d x → 0 ≤ gd d y ∧ gd d y ≤ gd d x + c
theorem BI.done {g : G} (hg : g.Ok) {f : Nat} {d : List Int} (h : BI g f d) (hr : ∀ i, i < g.X.length → Rest g d i) : IsDist g f d := by
  refine ⟨h.len, h.inb, h.lo, h.src, fun i x y c s => hr i (s.bnd hg).2.2.2.2.2 x y c s, fun v hv => ?_, h.cap hg⟩
  rcases h.back v hv with h1 | ⟨i, x, c, s, h1, h2⟩
  · exact .inl h1
  · have := hr i (s.bnd hg).2.2.2.2.2 x v c s h1
    exact .inr ⟨i, x, c, s, h1, by omega⟩
end Spf

namespace Go.Proofs.Ytenpbdanffacjaa
open Go Go.Ab Spf
section
variable {m m' : Mem} {n n' : Nat} {N : Int} {L : List Lk} {U : List Bool} {la ua : Option Addr} {ll lc ul uc : Nat}
/-- What the reference's Valid returns for links. -/
def rvG (N : Int) : List Lk → Int
  | [] => 0
  | l :: L => if l.a < 0 ∨ l.a ≥ N ∨ l.b < 0 ∨ l.b ≥ N ∨ l.c < 1 ∨ l.c > 1000 then 2 else if l.a = l.b then 12 else rvG N L
theorem rvG_zero {N : Int} : ∀ L : List Lk, rvG N L = 0 ↔ L.all (okLk N) = true
  | [] => by simp [-Bool.exists_bool, rvG]
  | l :: L => by
    have ih := rvG_zero (N := N) L
    simp only [rvG, List.all_cons, Bool.and_eq_true, okLk_iff]
    split
    · constructor
      · intro h; omega
      · rintro ⟨h, _⟩; omega
    · split
      · constructor
        · intro h; omega
        · rintro ⟨h, _⟩; omega
      · rw [ih]
        constructor
        · intro h; exact ⟨by omega, h⟩
        · rintro ⟨_, h⟩; exact h
def rvP (N : Int) (L : List Lk) : Int := if N < 1 then 2 else if N > 32 then 2 else if (L.length : Int) > 128 then 5 else rvG N L
theorem r09_loop {m1 : Mem} {n1 : Nat} (hL : Sl m1 n1 la lc (L.flatMap encL)) (hll : L.length ≤ 128) :
    ∀ l pre m n, L = pre ++ l → Le m1 n1 m n → W Try.prog { fn := fRef09Valid, nt := 63, slots := [(0, vi N), (1, .slice la L.length lc), (5, .int .i64 pre.length)], todo := pt Try.prog fRef09Valid [1, 1, 0, 1, 0, 0] } m n fun v m' n' => v = vi (rvG N l) ∧ Le m1 n1 m' n'
  | [], pre, m, n, h, hle => by
    refine W_of mixed (cfg := xcfg) (fuel := 400) ?_
    rw [xRef09Validk0]
    exact condDF (by simp [-Bool.exists_bool, h]) ⟨rfl, hle⟩
  | y :: l, pre, m, n, h, hle => by
    have hlt : pre.length < L.length := by simp [-Bool.exists_bool, h]
    have hy : L[pre.length] = y := by simp [-Bool.exists_bool, h]
    have hlen : (((pre ++ [y]).length : Nat) : Int) = ((pre.length + 1 : Nat) : Int) := by simp [-Bool.exists_bool]
    have ll := hle.le
    generalize hm3 : (m.set n (.cells none tApiLink 3 [.int .i64 0, .int .i64 0, .int .i64 0])).set n (.cells none tApiLink 3 (encL y)) = m3
    have k3 : ∀ i, i ≠ n → m3.get i = m.get i := fun i hi => by rw [← hm3, Tr.get_set, if_neg (fun e => hi e.symm), Tr.get_set, if_neg (fun e => hi e.symm)]
    have g3 : m3.get n = some (.cells none tApiLink 3 (encL y)) := by rw [← hm3]; simp [-Bool.exists_bool, Tr.get_set]
    have hst : storeCs (m.set n (.cells none tApiLink 3 [.int .i64 0, .int .i64 0, .int .i64 0])) n 0 (encL y) = some m3 := by
      have := store_of (m := m.set n (.cells none tApiLink 3 [.int .i64 0, .int .i64 0, .int .i64 0])) (b := n) (off := 0) (vs := encL y) (T := tApiLink) (sz := 3) (cs := [.int .i64 0, .int .i64 0, .int .i64 0]) (by simp [-Bool.exists_bool, Tr.get_set]) (by simp [-Bool.exists_bool]) (by simp [-Bool.exists_bool, encL, cellOk])
      rw [this, ← hm3]
      simp [-Bool.exists_bool, encL]
    have hle3 : Le m1 n1 m3 (n + 1) := ⟨by omega, fun i hi => by rw [k3 i (by omega)]; exact hle.same i hi⟩
    have nxt := r09_loop hL hll l (pre ++ [y]) m3 (n + 1) (by simp [-Bool.exists_bool, h]) hle3
    rw [hlen, ← wrapN (k := pre.length) (by omega)] at nxt
    refine W_of mixed (cfg := xcfg) (fuel := 400) ?_
    rw [xRef09Validk0]
    refine condDT (by omega) ((hL.le hle).ldv encL_len hlt (by omega) fun b o s _ _ r1 => ⟨y.a, y.b, y.c, by rw [hy] at r1; exact r1, memLet.mk fun m2 e => ?_⟩)
    subst e
    have fin : (y.a < 0 ∨ y.a ≥ N ∨ y.b < 0 ∨ y.b ≥ N ∨ y.c < 1 ∨ y.c > 1000) → (vi 2 = vi (rvG N (y :: l)) ∧ Le m1 n1 m3 (n + 1)) := fun h1 => ⟨by simp only [rvG]; rw [if_pos h1], hle3⟩
    refine ⟨m3, hst, isC_of g3, _, rd_of g3 rfl, condD (fun h1 => fin (by omega)) fun h1 => ?_⟩
    refine ⟨isC_of g3, _, rd_of g3 rfl, condD (fun h2 => fin (by omega)) fun h2 => ?_⟩
    refine ⟨isC_of g3, _, rd_of g3 rfl, condD (fun h3 => fin (by omega)) fun h3 => ?_⟩
    refine ⟨isC_of g3, _, rd_of g3 rfl, condD (fun h4 => fin (by omega)) fun h4 => ?_⟩
    refine ⟨isC_of g3, _, rd_of g3 rfl, condD (fun h5 => fin (by omega)) fun h5 => ?_⟩
    refine ⟨isC_of g3, _, rd_of g3 rfl, condD (fun h6 => fin (by omega)) fun h6 => ?_⟩
    refine ⟨isC_of g3, _, rd_of g3 rfl, isC_of g3, _, rd_of g3 rfl, condE (fun h7 => ?_) fun h7 => ?_⟩
    · exact ⟨by simp only [rvG]; rw [if_neg (by omega), if_pos h7], hle3⟩
    · have e : rvG N (y :: l) = rvG N l := by simp only [rvG]; rw [if_neg (by omega), if_neg h7]
      rw [e]; exact nxt
theorem r09_c (hll : L.length = ll) (hL : Sl m n la lc (L.flatMap encL)) {Q : Value → Mem → Nat → Prop} (hq : Q (vi (rvP N L)) m n) : Wc Try.prog fRef09Valid [vi N, .slice la ll lc] m n Q := by
  subst hll
  refine Wc.scalar ?_ rfl hq
  refine Wc_of mixed (cfg := xcfg) (fuel := 400) ?_
  rw [xRef09Valid]
  unfold rvP
  refine condD (fun h => ⟨by rw [if_pos h], Le.refl⟩) fun h1 => condD (fun h => ⟨by rw [if_neg h1, if_pos h], Le.refl⟩) fun h2 => condD (fun h => ⟨by rw [if_neg h1, if_neg h2, if_pos h], Le.refl⟩) fun h3 => ?_
  rw [if_neg h1, if_neg h2, if_neg h3]
  exact r09_loop hL (by omega) L [] m n rfl Le.refl
theorem rvalid_c {x : Int} (hll : L.length = ll) (hL : Sl m n la lc (L.flatMap encL)) {Q : Value → Mem → Nat → Prop} (hq : Q (.bool (validP N L ul [x])) m n) : Wc Try.prog fRef10Valid [vi N, .slice la ll lc, .slice ua ul uc, vi x] m n Q := by
  refine Wc_of mixed (cfg := xcfg) (fuel := 400) ?_
  rw [xRef10Valid]
  refine r09_c hll hL ⟨_, rfl, Later.mk ?_⟩
  have hz : rvP N L = 0 ↔ (1 ≤ N ∧ N ≤ 32 ∧ L.length ≤ 128 ∧ L.all (okLk N) = true) := by
    unfold rvP
    rw [← rvG_zero]
    split
    · constructor <;> intro h <;> omega
    · split
      · constructor <;> intro h <;> omega
      · split
        · constructor <;> intro h <;> omega
        · constructor
          · intro h; exact ⟨by omega, by omega, by omega, h⟩
          · intro h; exact h.2.2.2
  have key : validP N L ul [x] = true ↔ rvP N L = 0 ∧ ul = L.length ∧ 0 ≤ x ∧ x < N := by
    rw [hz]
    simp only [validP, Bool.and_eq_true, decide_eq_true_eq, inN, List.all_cons, List.all_nil, Bool.and_true]
    constructor
    · rintro ⟨⟨h1, h2⟩, h3, h4, h5, h6, h7⟩; exact ⟨⟨h1, h2, h3, h5⟩, h4, h6, h7⟩
    · rintro ⟨⟨h1, h2, h3, h5⟩, h4, h6, h7⟩; exact ⟨⟨h1, h2⟩, h3, h4, h5, h6, h7⟩
  have no : ¬ (rvP N L = 0 ∧ ul = L.length ∧ 0 ≤ x ∧ x < N) → Q (.bool false) m n := fun h => by
    have : validP N L ul [x] = false := by cases hv : validP N L ul [x] with | false => rfl | true => exact (h (key.1 hv)).elim
    rw [this] at hq; exact hq
  refine condE (fun h1 => condE (fun h2 => condD (fun h3 => ?_) fun h3 => no (by omega)) fun h2 => no (by omega)) fun h1 => no (fun h => h1 h.1)
  by_cases h4 : x < N
  · rw [key.2 ⟨h1, by omega, by omega, h4⟩] at hq
    rw [decide_eq_true h4]; exact hq
  · rw [decide_eq_false h4]; exact no (by omega)
/-- Other, of the reference. -/
theorem rother_c {l : Lk} {x : Int} {Q : Value → Mem → Nat → Prop} (hq : Q (.tuple ⟨[vi (if x = l.a ∨ x = l.b then other l x else 0), .bool (decide (x = l.a ∨ x = l.b))]⟩) m n) : Wc Try.prog fRef10Other [.agg ⟨encL l⟩, vi x] m n Q := by
  refine Wc.scalar ?_ rfl hq
  refine Wc_of mixed (cfg := xcfg) (fuel := 400) ?_
  simp only [encL, vi]
  rw [xRef10Other]
  refine memLet.mk fun m' e => ?_
  have hg : m'.get n = some (.cells none tApiLink 3 (encL l)) := by rw [e]; simp [-Bool.exists_bool, Tr.get_set, encL]
  have hle : Le m n m' (n + 1) := by rw [e]; exact Le.new
  refine ⟨isC_of hg, _, rd_of hg rfl, condE (fun h1 => ?_) fun h1 => ?_⟩
  · refine ⟨isC_of hg, _, rd_of hg rfl, ?_, hle⟩
    rw [if_pos (.inl h1), decide_eq_true (.inl h1)]
    simp [-Bool.exists_bool, other, h1]
  · refine ⟨isC_of hg, _, rd_of hg rfl, condE (fun h2 => ?_) fun h2 => ?_⟩
    · refine ⟨isC_of hg, _, rd_of hg rfl, ?_, hle⟩
      rw [if_pos (.inr h2), decide_eq_true (.inr h2)]
      simp only [other]; rw [if_neg h1, if_pos h2]
    · refine ⟨?_, hle⟩
      rw [if_neg (by rintro (h | h); exact h1 h; exact h2 h), decide_eq_false (by rintro (h | h); exact h1 h; exact h2 h)]
end
end Go.Proofs.Ytenpbdanffacjaa

namespace Go.Proofs.Ytenpbdanffacjaa
open Go Go.Ab Spf
/-- A pass over the links. -/
structure PS (g : G) (f : Nat) (M : Nat) (d : List Int) (more : Bool) (i : Nat) : Prop where
  bi : BI g f d
  mu : Spf.mu d ≤ M
  mt : more = true → Spf.mu d < M
  rest : more = false → ∀ j, j < i → Spf.Rest g d j
def rxC (d : List Int) (x y : Nat) (c : Int) : Prop := 0 ≤ gd d x ∧ (gd d y < 0 ∨ gd d y > gd d x + c)
instance (d : List Int) (x y : Nat) (c : Int) : Decidable (rxC d x y c) := by unfold rxC; exact inferInstance
def rxD (d : List Int) (x y : Nat) (c : Int) : List Int := if rxC d x y c then d.set y (gd d x + c) else d
def rxM (more : Bool) (d : List Int) (x y : Nat) (c : Int) : Bool := if rxC d x y c then true else more
theorem PS.half {g : G} (hg : g.Ok) {f M : Nat} {d : List Int} {more : Bool} {i j x y : Nat} {c : Int} (h : PS g f M d more i) (s : St g j x y c) : PS g f M (rxD d x y c) (rxM more d x y c) i := by
  unfold rxD rxM
  by_cases hc : rxC d x y c
  · rw [if_pos hc, if_pos hc]
    obtain ⟨h1, h2⟩ := h.bi.relax hg s hc.1 hc.2
    exact ⟨h1, by have := h.mu; omega, fun _ => by have := h.mu; omega, fun e => by cases e⟩
  · rw [if_neg hc, if_neg hc]; exact h
theorem PS.both {g : G} (hg : g.Ok) {f M : Nat} {d : List Int} {more : Bool} {i : Nat} {l : Lk} (h : PS g f M d more i) (hl : g.X[i]? = some (l, true)) :
    PS g f M (rxD (rxD d l.a.toNat l.b.toNat l.c) l.b.toNat l.a.toNat l.c) (rxM (rxM more d l.a.toNat l.b.toNat l.c) (rxD d l.a.toNat l.b.toNat l.c) l.b.toNat l.a.toNat l.c) (i + 1) := by
  have hlk := hg.at hl
  have sAB : St g i l.a.toNat l.b.toNat l.c := ⟨l, hl, by rw [show ((l.a.toNat : Nat) : Int) = l.a by omega]; unfold other; rw [if_pos rfl]; omega, rfl⟩
  have h1 := h.half hg sAB
  have h2 := h1.half hg (sAB.symm hg)
  refine ⟨h2.bi, h2.mu, h2.mt, fun e j hj => ?_⟩
  by_cases hji : j = i
  · subst hji
    -- nothing was changed
    have c2 : ¬ rxC (rxD d l.a.toNat l.b.toNat l.c) l.b.toNat l.a.toNat l.c := fun hc => by unfold rxM at e; rw [if_pos hc] at e; cases e
    have e1 : rxM more d l.a.toNat l.b.toNat l.c = false := by unfold rxM at e ⊢; rw [if_neg c2] at e; exact e
    have c1 : ¬ rxC d l.a.toNat l.b.toNat l.c := fun hc => by unfold rxM at e1; rw [if_pos hc] at e1; cases e1
    have ed : rxD d l.a.toNat l.b.toNat l.c = d := by unfold rxD; rw [if_neg c1]
    rw [ed] at c2 ⊢
    have ed2 : rxD d l.b.toNat l.a.toNat l.c = d := by unfold rxD; rw [if_neg c2]
    rw [ed2]
    intro x y c s hx
    obtain ⟨l', s1, s2, s3⟩ := s
    rw [hl] at s1; cases s1
    subst s3
    unfold rxC at c1 c2
    rcases other_cases (l := l) (n := (x : Int)) with ⟨o1, o2⟩ | ⟨_, o1, o2⟩ | ⟨_, _, o2⟩
    · have ex : l.a.toNat = x := by omega
      have ey : l.b.toNat = y := by omega
      rw [ex, ey] at c1
      omega
    · have ex : l.b.toNat = x := by omega
      have ey : l.a.toNat = y := by omega
      rw [ex, ey] at c2
      omega
    · omega
  · exact h2.rest e j (by omega)
section
variable {m m' : Mem} {n n' : Nat} {N : Int} {L : List Lk} {U : List Bool} {la ua : Option Addr} {ll lc ul uc : Nat}
/-- The distances' block. -/
structure DW (m0 : Mem) (n0 : Nat) (m : Mem) (n w : Nat) (d : List Int) : Prop where
  get : m.get w = some (.cells none tInt 1 (d.map vi))
  le : Le m0 n0 m n
  fs : Fs m0 n0 → Fs m n
  lo : n0 ≤ w
  lt : w < n
theorem DW.sl {m0 : Mem} {n0 w : Nat} {d : List Int} (h : DW m0 n0 m n w d) (c : Nat) : Sl m n (some ⟨w, 0, none⟩) c (d.map vi) :=
  .inr ⟨w, 0, none, d.map vi, rfl, h.lt, by simp [-Bool.exists_bool, cellsOf, h.get], fun _ => ⟨by simp [-Bool.exists_bool, liveAt, h.get], fun h => (h rfl).elim, by simp [-Bool.exists_bool, nilAt, h.get]⟩, by simp, by simp only [offOf, List.drop_zero]; exact List.take_of_length_le (Nat.le_refl _)⟩
theorem DW.ext {m0 : Mem} {n0 w : Nat} {d : List Int} (h : DW m0 n0 m n w d) (l : Le m n m' n') (fs : Fs m n → Fs m' n') : DW m0 n0 m' n' w d :=
  ⟨l.get h.lt h.get, h.le.trans l, fun hf => fs (h.fs hf), h.lo, by have := h.lt; have := l.le; omega⟩
theorem DW.put {m0 : Mem} {n0 w : Nat} {d : List Int} (h : DW m0 n0 m n w d) {x : Int} (h0 : 0 ≤ x) (h1 : x < d.length) (y : Int) :
    ∃ m', liveAt m w = true ∧ storeCs m w (offOf 0 none + x.toNat * 1) [vi y] = some m' ∧ DW m0 n0 m' n w (d.set x.toNat y) ∧ ∀ j, j ≠ w → m'.get j = m.get j := by
  have st := store_of (off := x.toNat) (vs := [vi y]) h.get (by simp; omega) (by simp [-Bool.exists_bool, cellOk])
  simp only [List.length_singleton] at st
  rw [map_take_drop_set vi d x.toNat y (by omega)] at st
  refine ⟨_, by simp [-Bool.exists_bool, liveAt, h.get], by simpa [-Bool.exists_bool] using st, ⟨by simp [-Bool.exists_bool, Tr.get_set], ⟨h.le.le, fun j hj => by rw [Tr.get_set, if_neg (by have := h.lo; omega)]; exact h.le.same j hj⟩, fun hf => (h.fs hf).in_ h.lt, h.lo, h.lt⟩, fun j hj => by rw [Tr.get_set, if_neg (fun e => hj e.symm)]⟩

theorem rinner {m0 : Mem} {n0 w f M c : Nat} (hg : (mkG N L U).Ok) (hul : U.length = L.length) (hL : Sl m0 n0 la lc (L.flatMap encL)) (hU : Sl m0 n0 ua uc (U.map Value.bool)) (hc : c = (mkG N L U).N) :
    ∀ (k i : Nat) (m : Mem) (n : Nat) (d : List Int) (more : Bool), i + k = L.length → PS (mkG N L U) f M d more i → DW m0 n0 m n w d →
    ∃ m' n' d' more', PS (mkG N L U) f M d' more' L.length ∧ DW m0 n0 m' n' w d' ∧ ∀ Q : Value → Mem → Nat → Prop, W Try.prog { fn := fRef10Dist, nt := 134, slots := [(1, .slice la L.length lc), (2, .slice ua U.length uc), (9, .slice (some ⟨w, 0, none⟩) c c), (11, .bool more')], todo := pt Try.prog fRef10Dist [1, 1, 1, 1, 1, 0, 1, 0, 0] } m' n' Q →
      W Try.prog { fn := fRef10Dist, nt := 134, slots := [(1, .slice la L.length lc), (2, .slice ua U.length uc), (9, .slice (some ⟨w, 0, none⟩) c c), (11, .bool more), (12, vi i)], todo := pt Try.prog fRef10Dist [1, 1, 1, 1, 1, 0, 1, 0, 0, 1, 0, 1, 1, 0, 0] } m n Q := by
  have hmany := hg.many
  have hXl : (mkG N L U).X.length = L.length := by simp [-Bool.exists_bool, mkG]; omega
  intro k
  induction k with
  | zero =>
    intro i m n d more h ps dw
    obtain rfl : i = L.length := by omega
    refine ⟨m, n, d, more, ps, dw, fun Q hq => ?_⟩
    refine W_of mixed (cfg := xcfg) (fuel := 400) ?_
    rw [xRef10Distk2]
    exact condDF (by omega) hq
  | succ k ih =>
    intro i m n d more h ps dw
    have hi : i < L.length := by omega
    have hiu : i < U.length := by omega
    have hz := zip_at (N := N) (U := U) hul hi
    generalize hl : L[i] = l at hz
    have hlk := hg.at hz
    have dlen := ps.bi.len
    generalize hm1 : (m.set n (.cells none tApiLink 3 [.int .i64 0, .int .i64 0, .int .i64 0])).set n (.cells none tApiLink 3 (encL l)) = ma
    have ka : ∀ j, j ≠ n → ma.get j = m.get j := fun j hj => by rw [← hm1, Tr.get_set, if_neg (fun e => hj e.symm), Tr.get_set, if_neg (fun e => hj e.symm)]
    have ga : ma.get n = some (.cells none tApiLink 3 (encL l)) := by rw [← hm1]; simp [-Bool.exists_bool, Tr.get_set]
    have hst : storeCs (m.set n (.cells none tApiLink 3 [.int .i64 0, .int .i64 0, .int .i64 0])) n 0 (encL l) = some ma := by
      have := store_of (m := m.set n (.cells none tApiLink 3 [.int .i64 0, .int .i64 0, .int .i64 0])) (b := n) (off := 0) (vs := encL l) (T := tApiLink) (sz := 3) (cs := [.int .i64 0, .int .i64 0, .int .i64 0]) (by simp [-Bool.exists_bool, Tr.get_set]) (by simp [-Bool.exists_bool]) (by simp [-Bool.exists_bool, encL, cellOk])
      rw [this, ← hm1]
      simp [-Bool.exists_bool, encL]
    have hla : Le m n ma (n + 1) := ⟨by omega, fun j hj => ka j (by omega)⟩
    have dwa := dw.ext hla fun hf j hj => by rw [ka j (by omega)]; exact hf j (by omega)
    have wn : w ≠ n := by have := dw.lt; omega
    have hw := wrapN (k := i) (by omega)
    have enter : ∀ (Q : Value → Mem → Nat → Prop) (B : Prop), (U[i] = true → B) → (U[i] = false → W Try.prog { fn := fRef10Dist, nt := 134, slots := [(1, .slice la L.length lc), (2, .slice ua U.length uc), (9, .slice (some ⟨w, 0, none⟩) c c), (11, .bool more), (12, vi ((i + 1 : Nat) : Int))], todo := pt Try.prog fRef10Dist [1, 1, 1, 1, 1, 0, 1, 0, 0, 1, 0, 1, 1, 0, 0] } ma (n + 1) Q) →
        elimA la False fun k0 k1 p2 => (0 ≤ (i : Int) ∧ (i : Int) < (L.length : Int) ∧ liveAt m k0 = true ∧ (p2 ≠ none → 0 < lc)) ∧ ∃ x3 x4 x5 : Int, rds m k0 (offOf k1 p2 + (i : Int).toNat * 3) 3 = some [vi x3, vi x4, vi x5] ∧ memLet (m.set n (.cells none tApiLink 3 [.int .i64 0, .int .i64 0, .int .i64 0])) fun m6 => ∃ m7, storeCs m6 n 0 [vi x3, vi x4, vi x5] = some m7 ∧
          (m7 = ma ∧ elimA ua False fun k8 k9 p10 => (0 ≤ (i : Int) ∧ (i : Int) < (U.length : Int) ∧ liveAt m7 k8 = true ∧ (p10 ≠ none → 0 < uc)) ∧ ∃ b11 : Bool, rd m7 k8 (offOf k9 p10 + (i : Int).toNat * 1) = some (.bool b11) ∧ bif !b11 then W Try.prog { fn := fRef10Dist, nt := 134, slots := [(1, .slice la L.length lc), (2, .slice ua U.length uc), (9, .slice (some ⟨w, 0, none⟩) c c), (11, .bool more), (12, vi ((i + 1 : Nat) : Int))], todo := pt Try.prog fRef10Dist [1, 1, 1, 1, 1, 0, 1, 0, 0, 1, 0, 1, 1, 0, 0] } m7 (n + 1) Q else B) := by
      intro Q B hB hF
      refine (hL.le dw.le).ldv encL_len hi (by omega) fun b o s _ _ r1 => ⟨l.a, l.b, l.c, by rw [hl] at r1; exact r1, memLet.mk fun mm e => ⟨ma, by rw [e]; exact hst, rfl, ?_⟩⟩
      refine (hU.le dwa.le).ldb hiu ?_
      cases hu : U[i] with
      | false => exact condT rfl (hF hu)
      | true => exact condF rfl (hB hu)
    cases hu : U[i] with
    | false =>
      rw [hu] at hz
      obtain ⟨m', n', d', more', r1, r2, run⟩ := ih (i + 1) ma (n + 1) d more (by omega) ⟨ps.bi, ps.mu, ps.mt, fun e j hj => by
        by_cases hji : j = i
        · subst hji
          intro x y c s
          obtain ⟨l', s1, _⟩ := s
          rw [hz] at s1; cases s1
        · exact ps.rest e j (by omega)⟩ dwa
      refine ⟨m', n', d', more', r1, r2, fun Q hq => ?_⟩
      refine W_of mixed (cfg := xcfg) (fuel := 400) ?_
      rw [xRef10Distk2, hw]
      refine condDT (by omega) ((hL.le dw.le).ldv encL_len hi (by omega) fun b o s _ _ r1 => ⟨l.a, l.b, l.c, by rw [hl] at r1; exact r1, memLet.mk fun mm e => ⟨ma, by rw [e]; exact hst, ?_⟩⟩)
      refine (hU.le dwa.le).ldb hiu ?_
      rw [hu]
      exact condT rfl (run Q hq)
    | true =>
      rw [hu] at hz
      have both := ps.both hg hz
      have sAB : St (mkG N L U) i l.a.toNat l.b.toNat l.c := ⟨l, hz, by rw [show ((l.a.toNat : Nat) : Int) = l.a by omega]; unfold other; rw [if_pos rfl]; omega, rfl⟩
      have h1 := ps.half hg sAB
      have len1 := h1.bi.len
      have cap := ps.bi.cap hg
      have cap1 := h1.bi.cap hg
      have lo := ps.bi.lo
      have lo1 := h1.bi.lo
      -- the second half
      have second : ∀ (m2 : Mem) (n2 : Nat) (d1 : List Int) (mr : Bool), d1 = rxD d l.a.toNat l.b.toNat l.c → mr = rxM more d l.a.toNat l.b.toNat l.c → DW m0 n0 m2 n2 w d1 → m2.get n = some (.cells none tApiLink 3 (encL l)) →
          ∃ m' n' d' more', PS (mkG N L U) f M d' more' L.length ∧ DW m0 n0 m' n' w d' ∧ ∀ Q : Value → Mem → Nat → Prop, W Try.prog { fn := fRef10Dist, nt := 134, slots := [(1, .slice la L.length lc), (2, .slice ua U.length uc), (9, .slice (some ⟨w, 0, none⟩) c c), (11, .bool more')], todo := pt Try.prog fRef10Dist [1, 1, 1, 1, 1, 0, 1, 0, 0] } m' n' Q →
            W Try.prog { fn := fRef10Dist, nt := 134, slots := [(1, .slice la L.length lc), (2, .slice ua U.length uc), (9, .slice (some ⟨w, 0, none⟩) c c), (11, .bool mr), (12, vi i), (13, pp n)], todo := pt Try.prog fRef10Dist [1, 1, 1, 1, 1, 0, 1, 0, 0, 1, 0, 1, 1, 0, 0, 1, 0, 0, 1, 1, 1, 0] } m2 n2 Q := by
        intro m2 n2 d1 mr hd1 hmr dw2 g2
        rw [← hd1, ← hmr] at both
        rw [← hd1] at len1 cap1 lo1
        have hcl : c = d1.length := by rw [len1, hc]
        have sd := dw2.sl c
        have vb := cap1 l.b.toNat
        have va := cap1 l.a.toNat
        have ya := lo1 l.a.toNat
        have yb := lo1 l.b.toNat
        by_cases hrx : rxC d1 l.b.toNat l.a.toNat l.c
        · obtain ⟨m3, lv, st3, dw3, k3⟩ := dw2.put (x := l.a) (by omega) (by omega) (gd d1 l.b.toNat + l.c)
          have ed : rxD d1 l.b.toNat l.a.toNat l.c = d1.set l.a.toNat (gd d1 l.b.toNat + l.c) := by unfold rxD; rw [if_pos hrx]
          have em : rxM mr d1 l.b.toNat l.a.toNat l.c = true := by unfold rxM; rw [if_pos hrx]
          rw [ed, em] at both
          obtain ⟨m', n', d', more', r1, r2, run⟩ := ih (i + 1) m3 (n2 + 30 + 13) _ true (by omega) both (dw3.ext (Le.refl.up (by omega)) fun hf => hf.up (by omega))
          refine ⟨m', n', d', more', r1, r2, fun Q hq => ?_⟩
          refine W_of1 mixed (cfg := xcfg) (fuel := 400) ?_
          rw [xRef10Distk3, hw]
          have hwr : IntKind.i64.wrap (gd d1 l.b.toNat + l.c) = gd d1 l.b.toNat + l.c := by have := hrx.1; exact wrap_id (by omega) (by omega)
          subst hcl
          refine ⟨isC_of g2, _, rd_of g2 rfl, ldx sd (by omega) (by omega) (condDT hrx.1 ⟨isC_of g2, _, rd_of g2 rfl, ldx sd (by omega) (by omega) (condD (fun h1 => ?_) fun h1 => ?_)⟩)⟩
          · refine ⟨isC_of g2, _, rd_of g2 rfl, isC_of g2, _, rd_of g2 rfl, ldx sd (by omega) (by omega) ⟨isC_of g2, _, rd_of g2 rfl, ⟨by omega, by omega, lv, fun h => (h rfl).elim⟩, m3, ?_, Nat.le_refl _, run Q hq⟩⟩
            rw [hwr]; exact st3
          · refine ⟨isC_of g2, _, rd_of g2 rfl, ldx sd (by omega) (by omega) ⟨isC_of g2, _, rd_of g2 rfl, ldx sd (by omega) (by omega) ⟨isC_of g2, _, rd_of g2 rfl, ?_⟩⟩⟩
            rw [hwr]
            refine condDT (by rcases hrx.2 with h | h; (· exact (h1 h).elim); (· exact h)) ⟨isC_of g2, _, rd_of g2 rfl, isC_of g2, _, rd_of g2 rfl, ldx sd (by omega) (by omega) ⟨isC_of g2, _, rd_of g2 rfl, ⟨by omega, by omega, lv, fun h => (h rfl).elim⟩, m3, ?_, Nat.le_refl _, run Q hq⟩⟩
            rw [hwr]; exact st3
        · have ed : rxD d1 l.b.toNat l.a.toNat l.c = d1 := by unfold rxD; rw [if_neg hrx]
          have em : rxM mr d1 l.b.toNat l.a.toNat l.c = mr := by unfold rxM; rw [if_neg hrx]
          rw [ed, em] at both
          obtain ⟨m', n', d', more', r1, r2, run⟩ := ih (i + 1) m2 (n2 + 30) d1 mr (by omega) both (dw2.ext (Le.refl.up (by omega)) fun hf => hf.up (by omega))
          refine ⟨m', n', d', more', r1, r2, fun Q hq => ?_⟩
          unfold rxC at hrx
          refine W_of1 mixed (cfg := xcfg) (fuel := 400) ?_
          rw [xRef10Distk3, hw]
          subst hcl
          refine ⟨isC_of g2, _, rd_of g2 rfl, ldx sd (by omega) (by omega) (condD (fun h0 => ⟨isC_of g2, _, rd_of g2 rfl, ldx sd (by omega) (by omega) (condDF (by omega) ?_)⟩) fun h0 => run Q hq)⟩
          refine ⟨isC_of g2, _, rd_of g2 rfl, ldx sd (by omega) (by omega) ⟨isC_of g2, _, rd_of g2 rfl, ldx sd (by omega) (by omega) ⟨isC_of g2, _, rd_of g2 rfl, ?_⟩⟩⟩
          rw [wrap_id (by omega) (by omega)]
          exact condDF (by omega) (run Q hq)
      have hcl : c = d.length := by rw [dlen, hc]
      have sd := dwa.sl c
      have vb := cap l.b.toNat
      have va := cap l.a.toNat
      have ya := lo l.a.toNat
      have yb := lo l.b.toNat
      by_cases hrx : rxC d l.a.toNat l.b.toNat l.c
      · obtain ⟨m3, lv, st3, dw3, k3⟩ := dwa.put (x := l.b) (by omega) (by omega) (gd d l.a.toNat + l.c)
        obtain ⟨m', n', d', more', r1, r2, run⟩ := second m3 (n + 1 + 30 + 13) (d.set l.b.toNat (gd d l.a.toNat + l.c)) true (by unfold rxD; rw [if_pos hrx]) (by unfold rxM; rw [if_pos hrx]) (dw3.ext (Le.refl.up (by omega)) fun hf => hf.up (by omega)) ((k3 n (Ne.symm wn)).trans ga)
        refine ⟨m', n', d', more', r1, r2, fun Q hq => ?_⟩
        have hwr : IntKind.i64.wrap (gd d l.a.toNat + l.c) = gd d l.a.toNat + l.c := by have := hrx.1; exact wrap_id (by omega) (by omega)
        have fin := run Q hq
        subst hcl
        refine W_of mixed (cfg := xcfg) (fuel := 400) ?_
        rw [xRef10Distk2, hw]
        refine condDT (by omega) ((hL.le dw.le).ldv encL_len hi (by omega) fun b o s _ _ r1 => ⟨l.a, l.b, l.c, by rw [hl] at r1; exact r1, memLet.mk fun mm e => ⟨ma, by rw [e]; exact hst, ?_⟩⟩)
        refine (hU.le dwa.le).ldb hiu ?_
        rw [hu]
        refine condF rfl ⟨isC_of ga, _, rd_of ga rfl, ldx sd (by omega) (by omega) (condDT hrx.1 ⟨isC_of ga, _, rd_of ga rfl, ldx sd (by omega) (by omega) (condD (fun h1 => ?_) fun h1 => ?_)⟩)⟩
        · refine ⟨isC_of ga, _, rd_of ga rfl, isC_of ga, _, rd_of ga rfl, ldx sd (by omega) (by omega) ⟨isC_of ga, _, rd_of ga rfl, ⟨by omega, by omega, lv, fun h => (h rfl).elim⟩, m3, ?_, Nat.le_refl _, fin⟩⟩
          rw [hwr]; exact st3
        · refine ⟨isC_of ga, _, rd_of ga rfl, ldx sd (by omega) (by omega) ⟨isC_of ga, _, rd_of ga rfl, ldx sd (by omega) (by omega) ⟨isC_of ga, _, rd_of ga rfl, ?_⟩⟩⟩
          rw [hwr]
          refine condDT (by rcases hrx.2 with h | h; (· exact (h1 h).elim); (· exact h)) ⟨isC_of ga, _, rd_of ga rfl, isC_of ga, _, rd_of ga rfl, ldx sd (by omega) (by omega) ⟨isC_of ga, _, rd_of ga rfl, ⟨by omega, by omega, lv, fun h => (h rfl).elim⟩, m3, ?_, Nat.le_refl _, fin⟩⟩
          rw [hwr]; exact st3
      · obtain ⟨m', n', d', more', r1, r2, run⟩ := second ma (n + 1 + 30) d more (by unfold rxD; rw [if_neg hrx]) (by unfold rxM; rw [if_neg hrx]) (dwa.ext (Le.refl.up (by omega)) fun hf => hf.up (by omega)) ga
        refine ⟨m', n', d', more', r1, r2, fun Q hq => ?_⟩
        unfold rxC at hrx
        have fin := run Q hq
        subst hcl
        refine W_of mixed (cfg := xcfg) (fuel := 400) ?_
        rw [xRef10Distk2, hw]
        refine condDT (by omega) ((hL.le dw.le).ldv encL_len hi (by omega) fun b o s _ _ r1 => ⟨l.a, l.b, l.c, by rw [hl] at r1; exact r1, memLet.mk fun mm e => ⟨ma, by rw [e]; exact hst, ?_⟩⟩)
        refine (hU.le dwa.le).ldb hiu ?_
        rw [hu]
        refine condF rfl ⟨isC_of ga, _, rd_of ga rfl, ldx sd (by omega) (by omega) (condD (fun h0 => ⟨isC_of ga, _, rd_of ga rfl, ldx sd (by omega) (by omega) (condDF (by omega) ?_)⟩) fun h0 => fin)⟩
        refine ⟨isC_of ga, _, rd_of ga rfl, ldx sd (by omega) (by omega) ⟨isC_of ga, _, rd_of ga rfl, ldx sd (by omega) (by omega) ⟨isC_of ga, _, rd_of ga rfl, ?_⟩⟩⟩
        rw [wrap_id (by omega) (by omega)]
        exact condDF (by omega) fin
end
end Go.Proofs.Ytenpbdanffacjaa

namespace Go.Proofs.Ytenpbdanffacjaa
open Go Go.Ab Spf
section
variable {m m' : Mem} {n n' : Nat} {N : Int} {L : List Lk} {U : List Bool} {la ua : Option Addr} {ll lc ul uc : Nat}
theorem rpasses {m0 : Mem} {n0 w f c : Nat} (hg : (mkG N L U).Ok) (hul : U.length = L.length) (hL : Sl m0 n0 la lc (L.flatMap encL)) (hU : Sl m0 n0 ua uc (U.map Value.bool)) (hc : c = (mkG N L U).N) :
    ∀ (k : Nat) (m : Mem) (n : Nat) (d : List Int), Spf.mu d ≤ k → BI (mkG N L U) f d → DW m0 n0 m n w d →
    ∃ m' n' d', IsDist (mkG N L U) f d' ∧ DW m0 n0 m' n' w d' ∧ ∀ Q : Value → Mem → Nat → Prop, Q (.slice (some ⟨w, 0, none⟩) c c) m' n' →
      W Try.prog { fn := fRef10Dist, nt := 134, slots := [(1, .slice la L.length lc), (2, .slice ua U.length uc), (9, .slice (some ⟨w, 0, none⟩) c c), (11, .bool true)], todo := pt Try.prog fRef10Dist [1, 1, 1, 1, 1, 0, 1, 0, 0] } m n Q := by
  have hXl : (mkG N L U).X.length = L.length := by simp [-Bool.exists_bool, mkG]; omega
  intro k
  induction k with
  | zero =>
    intro m n d hk bi dw
    obtain ⟨m1, n1, d1, more, ps, dw1, run⟩ := rinner (f := f) (M := Spf.mu d) hg hul hL hU hc L.length 0 m n d false (by omega) ⟨bi, Nat.le_refl _, fun h => by (cases h), fun _ j hj => by omega⟩ dw
    cases more with
    | true => have := ps.mt rfl; omega
    | false =>
      refine ⟨m1, n1, d1, ps.bi.done hg (fun i hi => ps.rest rfl i (by omega)), dw1, fun Q hq => ?_⟩
      refine W_of mixed (cfg := xcfg) (fuel := 400) ?_
      rw [xRef10Distk1]
      refine condT rfl (run Q ?_)
      refine W_of mixed (cfg := xcfg) (fuel := 400) ?_
      rw [xRef10Distk1]
      exact condF rfl hq
  | succ k ih =>
    intro m n d hk bi dw
    obtain ⟨m1, n1, d1, more, ps, dw1, run⟩ := rinner (f := f) (M := Spf.mu d) hg hul hL hU hc L.length 0 m n d false (by omega) ⟨bi, Nat.le_refl _, fun h => by (cases h), fun _ j hj => by omega⟩ dw
    cases more with
    | true =>
      obtain ⟨m2, n2, d2, r1, r2, run2⟩ := ih m1 n1 d1 (by have := ps.mt rfl; omega) ps.bi dw1
      refine ⟨m2, n2, d2, r1, r2, fun Q hq => ?_⟩
      refine W_of mixed (cfg := xcfg) (fuel := 400) ?_
      rw [xRef10Distk1]
      exact condT rfl (run Q (run2 Q hq))
    | false =>
      refine ⟨m1, n1, d1, ps.bi.done hg (fun i hi => ps.rest rfl i (by omega)), dw1, fun Q hq => ?_⟩
      refine W_of mixed (cfg := xcfg) (fuel := 400) ?_
      rw [xRef10Distk1]
      refine condT rfl (run Q ?_)
      refine W_of mixed (cfg := xcfg) (fuel := 400) ?_
      rw [xRef10Distk1]
      exact condF rfl hq
/-- The distances, set to -1. -/
theorem rinit {m0 : Mem} {n0 w : Nat} {f : Int} (hN : 0 ≤ N) (hN2 : N ≤ 32) (hf0 : 0 ≤ f) (hf : f < N) : ∀ (k i : Nat) (m : Mem) (n : Nat), i + k = N.toNat → DW m0 n0 m n w (List.replicate i (-1) ++ List.replicate (N.toNat - i) 0) →
    ∃ m', DW m0 n0 m' n w ((List.replicate N.toNat (-1)).set f.toNat 0) ∧ ∀ Q : Value → Mem → Nat → Prop, W Try.prog { fn := fRef10Dist, nt := 134, slots := [(1, .slice la ll lc), (2, .slice ua ul uc), (9, .slice (some ⟨w, 0, none⟩) N.toNat N.toNat), (11, .bool true)], todo := pt Try.prog fRef10Dist [1, 1, 1, 1, 1, 0, 1, 0, 0] } m' n Q →
      W Try.prog { fn := fRef10Dist, nt := 134, slots := [(0, vi N), (1, .slice la ll lc), (2, .slice ua ul uc), (3, vi f), (9, .slice (some ⟨w, 0, none⟩) N.toNat N.toNat), (10, vi i)], todo := pt Try.prog fRef10Dist [1, 1, 1, 0, 1, 0, 0] } m n Q := by
  intro k
  induction k with
  | zero =>
    intro i m n h dw
    have e : List.replicate i (-1 : Int) ++ List.replicate (N.toNat - i) 0 = List.replicate N.toNat (-1) := by
      have : i = N.toNat := by omega
      subst this; simp [-Bool.exists_bool]
    rw [e] at dw
    obtain ⟨m1, lv, st, dw1, _⟩ := dw.put (x := f) hf0 (by simp; omega) 0
    refine ⟨m1, dw1, fun Q hq => ?_⟩
    refine W_of mixed (cfg := xcfg) (fuel := 400) ?_
    rw [xRef10Distk0]
    exact condDF (by omega) ⟨⟨by omega, by omega, lv, fun h => (h rfl).elim⟩, m1, st, hq⟩
  | succ k ih =>
    intro i m n h dw
    obtain ⟨m1, lv, st, dw1, _⟩ := dw.put (x := (i : Int)) (by omega) (by simp; omega) (-1)
    have e : (List.replicate i (-1 : Int) ++ List.replicate (N.toNat - i) 0).set (i : Int).toNat (-1) = List.replicate (i + 1) (-1) ++ List.replicate (N.toNat - (i + 1)) 0 := by
      have e1 : N.toNat - i = (N.toNat - (i + 1)) + 1 := by omega
      rw [show ((i : Int).toNat) = i by omega, List.set_append_right _ _ (by simp [-Bool.exists_bool]), List.length_replicate, Nat.sub_self, e1, List.replicate_succ, List.set_cons_zero, List.replicate_succ']
      simp [-Bool.exists_bool]
    rw [e] at dw1
    obtain ⟨m', r, run⟩ := ih (i + 1) m1 n (by omega) dw1
    refine ⟨m', r, fun Q hq => ?_⟩
    refine W_of mixed (cfg := xcfg) (fuel := 400) ?_
    rw [xRef10Distk0, wrapN (k := i) (by omega)]
    exact condDT (by omega) ⟨⟨by omega, by omega, lv, fun h => (h rfl).elim⟩, m1, st, run Q hq⟩
theorem rdist_c {f : Int} (hll : L.length = ll) (hul : U.length = ul) (hL : Sl m n la lc (L.flatMap encL)) (hU : Sl m n ua uc (U.map Value.bool)) :
    ∃ m' n' a D, DistR N L U f D ∧ Ow m' n n' tInt 1 a D.length D.length (D.map vi) ∧ Le m n m' n' ∧ (Fs m n → Fs m' n') ∧ Exact Try.prog fRef10Dist [vi N, .slice la ll lc, .slice ua ul uc, vi f] m n (.slice a D.length D.length) m' n' := by
  subst hll; subst hul
  cases hv : validP N L U.length [f] with
  | false =>
    refine ⟨m, n, none, [], by unfold DistR; rw [if_neg (by simp [-Bool.exists_bool, hv])], Ow.nil, Le.refl, id, fun Q hq => ?_⟩
    refine Wc_of mixed (cfg := xcfg) (fuel := 400) ?_
    rw [xRef10Dist]
    refine rvalid_c rfl hL ⟨_, rfl, Later.mk ?_⟩
    rw [hv]
    exact condT rfl hq
  | true =>
    obtain ⟨hg, e1, e2, e3, e4, e5, e6⟩ := valid_iff hv
    obtain ⟨hf1, hf2⟩ := e6 f (by simp [-Bool.exists_bool])
    have hN := hg.big
    have hgN : (mkG N L U).N = N.toNat := rfl
    generalize hm1 : m.set n (.cells none tInt 1 ((List.replicate N.toNat (0 : Int)).map vi)) = m1
    have dw0 : DW m n m1 (n + 1) n (List.replicate 0 (-1) ++ List.replicate (N.toNat - 0) 0) := by
      refine ⟨by rw [← hm1]; simp [-Bool.exists_bool, Tr.get_set], by rw [← hm1]; exact Le.new, fun hf => by rw [← hm1]; exact hf.set, Nat.le_refl _, by omega⟩
    obtain ⟨m2, dw2, run2⟩ := rinit (la := la) (ll := L.length) (lc := lc) (ua := ua) (ul := U.length) (uc := uc) (N := N) (f := f) (by omega) (by omega) (by omega) (by omega) N.toNat 0 m1 (n + 1) (by omega) dw0
    have bi := BI.start hg (f := f.toNat) (by rw [hgN]; exact hf2)
    rw [hgN] at bi
    obtain ⟨m3, n3, D, hd, dw3, run3⟩ := rpasses (c := N.toNat) hg e4 hL hU hgN.symm (Spf.mu ((List.replicate N.toNat (-1)).set f.toNat 0)) m2 (n + 1) _ (Nat.le_refl _) bi dw2
    have hD : D.length = N.toNat := hd.len
    refine ⟨m3, n3, some ⟨n, 0, none⟩, D, by unfold DistR; rw [if_pos hv]; exact hd, ⟨rfl, by simp, .inr ⟨n, 0, none, D.map vi, rfl, Nat.le_refl _, dw3.lt, dw3.get, by simp, by simp⟩⟩, dw3.le, dw3.fs, fun Q hq => ?_⟩
    refine Wc_of mixed (cfg := xcfg) (fuel := 400) ?_
    rw [xRef10Dist]
    refine rvalid_c rfl hL ⟨_, rfl, Later.mk ?_⟩
    rw [hv]
    refine condF rfl ⟨⟨by omega, by omega, by omega⟩, memLet.mk fun mm e => ?_⟩
    have e : mm = m1 := by rw [e, ← hm1]; simp [-Bool.exists_bool]
    subst e
    rw [hD] at hq
    exact run2 Q (run3 Q hq)

/-- Next, of the reference. -/
theorem rnext_loop {m0 : Mem} {n0 : Nat} {f : Nat} {d : List Int} {da : Option Addr} {dc : Nat} (hg : (mkG N L U).Ok) (hul : U.length = L.length) (hL : Sl m0 n0 la lc (L.flatMap encL)) (hU : Sl m0 n0 ua uc (U.map Value.bool)) (hd0 : 0 < d.length) (hdl : d.length = (mkG N L U).N) (sd : Sl m0 n0 da dc (d.map vi)) (hfl : f < d.length) (hval : ∀ v, gd d v ≤ 32000) :
    ∀ (k i : Nat) (O : List Int) (m : Mem) (n : Nat) (oa : Option Addr), i + k = L.length → O ++ nextGo d f i ((mkG N L U).X.drop i) = nextL (mkG N L U) d f → O.length ≤ i → Le m0 n0 m n → (Fs m0 n0 → Fs m n) → Ow m n0 n tInt 1 oa O.length O.length (O.map vi) →
    ∃ m' n' a', Ow m' n0 n' tInt 1 a' (nextL (mkG N L U) d f).length (nextL (mkG N L U) d f).length ((nextL (mkG N L U) d f).map vi) ∧ Le m0 n0 m' n' ∧ (Fs m0 n0 → Fs m' n') ∧ ∀ Q : Value → Mem → Nat → Prop, Q (.slice a' (nextL (mkG N L U) d f).length (nextL (mkG N L U) d f).length) m' n' →
      W Try.prog { fn := fRef10Next, nt := 83, slots := [(1, .slice la L.length lc), (2, .slice ua U.length uc), (3, vi f), (11, .slice da d.length dc), (12, .slice oa O.length O.length), (13, vi i)], todo := pt Try.prog fRef10Next [1, 1, 1, 1, 0, 1, 0, 0] } m n Q := by
  have hmany := hg.many
  have hXl : (mkG N L U).X.length = L.length := by simp [-Bool.exists_bool, mkG]; omega
  intro k
  induction k with
  | zero =>
    intro i O m n oa h ho hol hle hfs how
    have hi : i = L.length := by omega
    rw [List.drop_of_length_le (by omega)] at ho
    simp only [nextGo, List.append_nil] at ho
    subst ho
    refine ⟨m, n, oa, how, hle, hfs, fun Q hq => ?_⟩
    refine W_of mixed (cfg := xcfg) (fuel := 400) ?_
    rw [xRef10Nextk0]
    exact condDF (by omega) hq
  | succ k ih =>
    intro i O m n oa h ho hol hle hfs how
    have hi : i < L.length := by omega
    have hiu : i < U.length := by omega
    have hz := zip_at (N := N) (U := U) hul hi
    have hgo := nextGo_drop (d := d) (f := f) hz
    generalize hl : L[i] = l at hz hgo
    have hlk := hg.at hz
    rw [← hdl] at hlk
    have hw := wrapN (k := i) (by omega)
    have h0 := hle.le
    have sdm := sd.le hle
    -- without an append
    have skip : onP d f l U[i] = false → ∀ n1, n ≤ n1 → ∃ m' n' a', Ow m' n0 n' tInt 1 a' (nextL (mkG N L U) d f).length (nextL (mkG N L U) d f).length ((nextL (mkG N L U) d f).map vi) ∧ Le m0 n0 m' n' ∧ (Fs m0 n0 → Fs m' n') ∧ ∀ Q : Value → Mem → Nat → Prop, Q (.slice a' (nextL (mkG N L U) d f).length (nextL (mkG N L U) d f).length) m' n' →
        W Try.prog { fn := fRef10Next, nt := 83, slots := [(1, .slice la L.length lc), (2, .slice ua U.length uc), (3, vi f), (11, .slice da d.length dc), (12, .slice oa O.length O.length), (13, vi ((i + 1 : Nat) : Int))], todo := pt Try.prog fRef10Next [1, 1, 1, 1, 0, 1, 0, 0] } m n1 Q := fun hon n1 hn1 => by
      rw [hon] at hgo
      exact ih (i + 1) O m n1 oa (by omega) (by rw [← ho, hgo]; rfl) (by omega) (hle.up hn1) (fun hf => (hfs hf).up hn1) (how.same hn1 fun _ _ _ _ => rfl)
    have enter : ∀ (Q : Value → Mem → Nat → Prop), (bif decide ((f : Int) = l.a ∨ (f : Int) = l.b) then elimA ua False fun k11 k12 p13 => (0 ≤ (i : Int) ∧ (i : Int) < (U.length : Int) ∧ liveAt m k11 = true ∧ (p13 ≠ none → 0 < uc)) ∧ ∃ b14 : Bool, rd m k11 (offOf k12 p13 + (i : Int).toNat * 1) = some (.bool b14) ∧ bif b14 then elimA da False fun k15 k16 p17 => (0 ≤ (if (f : Int) = l.a ∨ (f : Int) = l.b then other l f else 0) ∧ (if (f : Int) = l.a ∨ (f : Int) = l.b then other l f else 0) < (d.length : Int) ∧ liveAt m k15 = true ∧ (p17 ≠ none → 0 < dc)) ∧
          ∃ x18 : Int, rd m k15 (offOf k16 p17 + (if (f : Int) = l.a ∨ (f : Int) = l.b then other l f else 0).toNat * 1) = some (vi x18) ∧ bif decide (x18 ≥ 0) then elimA da False fun k19 k20 p21 => (0 ≤ (if (f : Int) = l.a ∨ (f : Int) = l.b then other l f else 0) ∧ (if (f : Int) = l.a ∨ (f : Int) = l.b then other l f else 0) < (d.length : Int) ∧ liveAt m k19 = true ∧ (p21 ≠ none → 0 < dc)) ∧ ∃ x22 : Int, rd m k19 (offOf k20 p21 + (if (f : Int) = l.a ∨ (f : Int) = l.b then other l f else 0).toNat * 1) = some (vi x22) ∧
            elimA la False fun k23 k24 p25 => (0 ≤ (i : Int) ∧ (i : Int) < (L.length : Int) ∧ liveAt m k23 = true ∧ (p25 ≠ none → 0 < lc)) ∧ isC m k23 = true ∧ ∃ x26 : Int, rd m k23 (offOf k24 p25 + (i : Int).toNat * 3 + 2) = some (vi x26) ∧ elimA da False fun k27 k28 p29 => (0 ≤ (f : Int) ∧ (f : Int) < (d.length : Int) ∧ liveAt m k27 = true ∧ (p29 ≠ none → 0 < dc)) ∧ ∃ x30 : Int, rd m k27 (offOf k28 p29 + (f : Int).toNat * 1) = some (vi x30) ∧
              bif IntKind.i64.wrap (x22 + x26) == x30 then memLet (m.set (n + 31) (.cells none tInt 1 [vi i])) fun m31 => ∃ p32 k33 k34 m35 k36, appendA Try.prog m31 (n + 31 + 1) tLint tLint (.slice oa O.length O.length) (.slice (some ⟨n + 31, 0, none⟩) 1 1) = .val (.slice p32 k33 k34) m35 k36 ∧ W Try.prog { fn := fRef10Next, nt := 83, slots := [(1, .slice la L.length lc), (2, .slice ua U.length uc), (3, vi f), (11, .slice da d.length dc), (12, .slice p32 k33 k34), (13, vi ((i + 1 : Nat) : Int))], todo := pt Try.prog fRef10Next [1, 1, 1, 1, 0, 1, 0, 0] } m35 k36 Q
              else W Try.prog { fn := fRef10Next, nt := 83, slots := [(1, .slice la L.length lc), (2, .slice ua U.length uc), (3, vi f), (11, .slice da d.length dc), (12, .slice oa O.length O.length), (13, vi ((i + 1 : Nat) : Int))], todo := pt Try.prog fRef10Next [1, 1, 1, 1, 0, 1, 0, 0] } m (n + 31) Q
            else W Try.prog { fn := fRef10Next, nt := 83, slots := [(1, .slice la L.length lc), (2, .slice ua U.length uc), (3, vi f), (11, .slice da d.length dc), (12, .slice oa O.length O.length), (13, vi ((i + 1 : Nat) : Int))], todo := pt Try.prog fRef10Next [1, 1, 1, 1, 0, 1, 0, 0] } m (n + 31) Q
          else W Try.prog { fn := fRef10Next, nt := 83, slots := [(1, .slice la L.length lc), (2, .slice ua U.length uc), (3, vi f), (11, .slice da d.length dc), (12, .slice oa O.length O.length), (13, vi ((i + 1 : Nat) : Int))], todo := pt Try.prog fRef10Next [1, 1, 1, 1, 0, 1, 0, 0] } m (n + 31) Q
        else W Try.prog { fn := fRef10Next, nt := 83, slots := [(1, .slice la L.length lc), (2, .slice ua U.length uc), (3, vi f), (11, .slice da d.length dc), (12, .slice oa O.length O.length), (13, vi ((i + 1 : Nat) : Int))], todo := pt Try.prog fRef10Next [1, 1, 1, 1, 0, 1, 0, 0] } m (n + 31) Q) →
        W Try.prog { fn := fRef10Next, nt := 83, slots := [(1, .slice la L.length lc), (2, .slice ua U.length uc), (3, vi f), (11, .slice da d.length dc), (12, .slice oa O.length O.length), (13, vi i)], todo := pt Try.prog fRef10Next [1, 1, 1, 1, 0, 1, 0, 0] } m n Q := by
      intro Q hq
      refine W_of mixed (cfg := xcfg) (fuel := 400) ?_
      rw [xRef10Nextk0, hw]
      exact condDT (by omega) (condDT (by omega) ((hL.le hle).ldv encL_len hi (by omega) fun b o s _ _ r1 => ⟨l.a, l.b, l.c, by rw [hl] at r1; exact r1, rother_c (l := l) ⟨_, _, rfl, Later.mk hq⟩⟩))
    by_cases hat : (f : Int) = l.a ∨ (f : Int) = l.b
    · have hoth : 0 ≤ other l f ∧ other l f < d.length := by
        rcases other_cases (l := l) (n := (f : Int)) with ⟨_, e⟩ | ⟨_, _, e⟩ | ⟨e1, e2, _⟩
        · omega
        · omega
        · rcases hat with h | h
          · exact (e1 h).elim
          · exact (e2 h).elim
      cases hu : U[i] with
      | false =>
        obtain ⟨m', n', a', r1, r2, r3, run⟩ := skip (by rw [hu]; rfl) (n + 31) (by omega)
        refine ⟨m', n', a', r1, r2, r3, fun Q hq => enter Q ?_⟩
        rw [if_pos hat]
        refine condDT hat ((hU.le hle).ldb hiu ?_)
        rw [hu]
        exact condF rfl (run Q hq)
      | true =>
        by_cases hun : gd d (other l f).toNat ≥ 0
        · have hv1 := hval (other l f).toNat
          have hwr : IntKind.i64.wrap (gd d (other l f).toNat + l.c) = gd d (other l f).toNat + l.c := wrap_id (by omega) (by omega)
          obtain ⟨b, o, s', he, q1, q2, q3, q4, q5, q6, q7⟩ := lnk (hL.le hle) hi
          rw [hl] at q7
          by_cases heq : gd d (other l f).toNat + l.c = gd d f
          · have hon : onP d f l U[i] = true := by rw [hu]; simp [-Bool.exists_bool, onP, hoth.1, hun, heq]
            rw [hon] at hgo
            generalize hm4 : m.set (n + 31) (.cells none tInt 1 [vi i]) = m4
            have k4 : ∀ j, j ≠ n + 31 → m4.get j = m.get j := fun j hj => by rw [← hm4, Tr.get_set, if_neg (fun e => hj e.symm)]
            have hsc : sliceCells m4 1 1 (.slice (some ⟨n + 31, 0, none⟩) 1 1) = some [vi i] := one_cell (T := tInt) (sz := 1) (by rw [← hm4]; simp [-Bool.exists_bool, Tr.get_set])
            have how4 : Ow m4 n0 (n + 31 + 1) tInt 1 oa O.length O.length (O.map vi) := how.same (by omega) fun b o s e => k4 b (by have := (how.bnd e).2; omega)
            obtain ⟨a5, m5, n5, r1, r2, r3, r4, r5, r6⟩ := how4.append (t := tLint) (k := 1) intOk hsc (by simp [-Bool.exists_bool, cellOk]) (by simp [-Bool.exists_bool]) (by omega) (by omega)
            have el : (O ++ [(i : Int)]).length = O.length + 1 := by simp [-Bool.exists_bool]
            have em : O.map vi ++ [vi i] = (O ++ [(i : Int)]).map vi := by simp [-Bool.exists_bool]
            rw [em] at r2
            obtain ⟨m', n', a', s1, s2, s3, run⟩ := ih (i + 1) (O ++ [(i : Int)]) m5 n5 a5 (by omega) (by rw [← ho, hgo]; simp [-Bool.exists_bool]) (by simp; omega) ⟨by omega, fun q hq => by rw [r5 q (by omega) fun b o s e => by have := (how4.bnd e).1; omega, k4 q (by omega)]; exact hle.same q hq⟩
              (fun hf => r6 (by rw [← hm4]; exact fun q hq => by rw [Tr.get_set, if_neg (by omega)]; exact hfs hf q (by omega))) (by rw [el]; exact r2)
            refine ⟨m', n', a', s1, s2, s3, fun Q hq => enter Q ?_⟩
            have fin := run Q hq
            rw [el] at fin
            rw [if_pos hat]
            refine condDT hat ((hU.le hle).ldb hiu ?_)
            rw [hu]
            refine condT rfl (ldx sdm hoth.1 hoth.2 (condDT hun (ldx sdm hoth.1 hoth.2 ?_)))
            rw [he] at fin ⊢
            refine ⟨⟨by omega, by omega, q1, q2⟩, q3, _, q7, ldx sdm (by omega) (by omega) ?_⟩
            rw [hwr]
            refine condET heq (memLet.mk fun mm e => ?_)
            have e : mm = m4 := e.trans hm4
            rw [e]
            exact ⟨_, _, _, _, _, r1, fin⟩
          · obtain ⟨m', n', a', r1, r2, r3, run⟩ := skip (by rw [hu]; simp [-Bool.exists_bool, onP, heq]) (n + 31) (by omega)
            refine ⟨m', n', a', r1, r2, r3, fun Q hq => enter Q ?_⟩
            have fin := run Q hq
            rw [if_pos hat]
            refine condDT hat ((hU.le hle).ldb hiu ?_)
            rw [hu]
            refine condT rfl (ldx sdm hoth.1 hoth.2 (condDT hun (ldx sdm hoth.1 hoth.2 ?_)))
            rw [he] at fin ⊢
            refine ⟨⟨by omega, by omega, q1, q2⟩, q3, _, q7, ldx sdm (by omega) (by omega) ?_⟩
            rw [hwr]
            exact condEF heq fin
        · obtain ⟨m', n', a', r1, r2, r3, run⟩ := skip (by rw [hu]; simp [-Bool.exists_bool, onP]; omega) (n + 31) (by omega)
          refine ⟨m', n', a', r1, r2, r3, fun Q hq => enter Q ?_⟩
          rw [if_pos hat]
          refine condDT hat ((hU.le hle).ldb hiu ?_)
          rw [hu]
          exact condT rfl (ldx sdm hoth.1 hoth.2 (condDF hun (run Q hq)))
    · have hoff : other l f = -1 := by
        rcases other_cases (l := l) (n := (f : Int)) with ⟨e, _⟩ | ⟨_, e, _⟩ | ⟨_, _, e⟩
        · exact (hat (.inl e)).elim
        · exact (hat (.inr e)).elim
        · exact e
      obtain ⟨m', n', a', r1, r2, r3, run⟩ := skip (by simp [-Bool.exists_bool, onP, hoff]) (n + 31) (by omega)
      exact ⟨m', n', a', r1, r2, r3, fun Q hq => enter Q (condDF hat (run Q hq))⟩
theorem rnext_c {f t : Int} (hll : L.length = ll) (hul : U.length = ul) (hL : Sl m n la lc (L.flatMap encL)) (hU : Sl m n ua uc (U.map Value.bool)) :
    ∃ m' n' a D, NextR N L U f t D ∧ Ow m' n n' tInt 1 a D.length D.length (D.map vi) ∧ Le m n m' n' ∧ (Fs m n → Fs m' n') ∧ Exact Try.prog fRef10Next [vi N, .slice la ll lc, .slice ua ul uc, vi f, vi t] m n (.slice a D.length D.length) m' n' := by
  subst hll; subst hul
  have split2 : validP N L U.length [f, t] = (validP N L U.length [f] && validP N L U.length [t]) := by
    simp only [validP, List.all_cons, List.all_nil, Bool.and_true]
    cases decide (1 ≤ N) <;> cases decide (N ≤ 32) <;> cases decide (L.length ≤ 128) <;> cases decide (U.length = L.length) <;> cases L.all (okLk N) <;> simp [-Bool.exists_bool]
  cases hv : validP N L U.length [f] with
  | false =>
    refine ⟨m, n, none, [], by unfold NextR; rw [if_neg (by rw [split2, hv]; simp [-Bool.exists_bool])], Ow.nil, Le.refl, id, fun Q hq => ?_⟩
    refine Wc_of mixed (cfg := xcfg) (fuel := 400) ?_
    rw [xRef10Next]
    refine rvalid_c rfl hL ⟨_, rfl, Later.mk ?_⟩
    rw [hv]
    exact condT rfl hq
  | true =>
    obtain ⟨hg, e1, e2, e3, e4, e5, e6⟩ := valid_iff hv
    obtain ⟨hf1, hf2⟩ := e6 f (by simp [-Bool.exists_bool])
    have hgN : (mkG N L U).N = N.toNat := rfl
    have hbig := hg.big
    have hmany := hg.many
    have hXl : (mkG N L U).X.length = L.length := e3
    obtain ⟨m1, n1, a1, d, hd, ow1, le1, fs1, run1⟩ := rdist_c (N := N) (f := t) rfl rfl hL hU
    cases ht : validP N L U.length [t] with
    | false =>
      have hd0 : d = [] := by unfold DistR at hd; rw [if_neg (by simp [-Bool.exists_bool, ht])] at hd; exact hd
      subst hd0
      refine ⟨m1, n1, none, [], by unfold NextR; rw [if_neg (by rw [split2, hv, ht]; simp [-Bool.exists_bool])], Ow.nil, le1, fs1, fun Q hq => ?_⟩
      refine Wc_of mixed (cfg := xcfg) (fuel := 400) ?_
      rw [xRef10Next]
      refine rvalid_c rfl hL ⟨_, rfl, Later.mk ?_⟩
      rw [hv]
      refine condF rfl (run1 _ ⟨_, _, _, rfl, Later.mk ?_⟩)
      refine W_of mixed (cfg := xcfg) (fuel := 400) ?_
      rw [xRef10Nextk0]
      exact condD (fun _ => condDF (by simp [-Bool.exists_bool]) hq) fun _ => hq
    | true =>
      have hd : IsDist (mkG N L U) t.toNat d := by unfold DistR at hd; rw [if_pos ht] at hd; exact hd
      have dl := hd.len
      obtain ⟨m', n', a', r1, r2, r3, run⟩ := rnext_loop (m0 := m1) (n0 := n1) (f := f.toNat) hg e4 (hL.le le1) (hU.le le1) (by omega) dl ow1.sl (by omega) hd.val L.length 0 [] m1 n1 none (by omega) rfl (Nat.le_refl _) Le.refl id Ow.nil
      have l1 := le1.le
      refine ⟨m', n', a', _, by unfold NextR; rw [if_pos (by rw [split2, hv, ht]; rfl)]; exact ⟨d, hd, rfl⟩, r1.low (by omega), le1.trans r2, fun hf => r3 (fs1 hf), fun Q hq => ?_⟩
      refine Wc_of mixed (cfg := xcfg) (fuel := 400) ?_
      rw [xRef10Next]
      refine rvalid_c rfl hL ⟨_, rfl, Later.mk ?_⟩
      rw [hv]
      refine condF rfl (run1 _ ⟨_, _, _, rfl, Later.mk ?_⟩)
      have := run Q hq
      rw [← hf1] at this
      exact this
end
end Go.Proofs.Ytenpbdanffacjaa

namespace Go.Proofs.Ytenpbdanffacjaa
open Go Go.Ab Spf
section
variable {m m' : Mem} {n n' : Nat} {N : Int} {L : List Lk} {U : List Bool} {la ua : Option Addr} {ll lc ul uc : Nat}
theorem valid_two {f t : Int} : validP N L U.length [f, t] = (validP N L U.length [f] && validP N L U.length [t]) := by
  simp only [validP, List.all_cons, List.all_nil, Bool.and_true]
  cases decide (1 ≤ N) <;> cases decide (N ≤ 32) <;> cases decide (L.length ≤ 128) <;> cases decide (U.length = L.length) <;> cases L.all (okLk N) <;> simp [-Bool.exists_bool]
theorem valid_at {f : Int} (hv : validP N L U.length [f] = true) {j : Nat} (hj : j < N.toNat) : validP N L U.length [(j : Int)] = true := by
  simp only [validP, List.all_cons, List.all_nil, Bool.and_true, Bool.and_eq_true] at hv ⊢
  refine ⟨hv.1, hv.2.1, hv.2.2.1, hv.2.2.2.1, ?_⟩
  simp [-Bool.exists_bool, inN]; omega
theorem rparents_loop {m0 : Mem} {n0 : Nat} {f : Int} {d : List Int} {da : Option Addr} {dc : Nat} (hv : validP N L U.length [f] = true) (hd : IsDist (mkG N L U) f.toNat d) (hL : Sl m0 n0 la lc (L.flatMap encL)) (hU : Sl m0 n0 ua uc (U.map Value.bool)) :
    ∀ (k j : Nat) (m : Mem) (n : Nat) (oa : Option Addr), j + k = N.toNat → Le m0 n0 m n → (Fs m0 n0 → Fs m n) → Ow m n0 n tInt 1 oa j j (((List.range j).map (par (mkG N L U) d)).map vi) →
    ∃ m' n' a', Ow m' n0 n' tInt 1 a' N.toNat N.toNat ((parentsL (mkG N L U) d).map vi) ∧ Le m0 n0 m' n' ∧ (Fs m0 n0 → Fs m' n') ∧ ∀ Q : Value → Mem → Nat → Prop, Q (.slice a' N.toNat N.toNat) m' n' →
      W Try.prog { fn := fRef10Parents, nt := 43, slots := [(0, vi N), (1, .slice la L.length lc), (2, .slice ua U.length uc), (3, vi f), (9, .slice da d.length dc), (10, .slice oa j j), (11, vi j)], todo := pt Try.prog fRef10Parents [1, 1, 1, 0, 1, 0, 0] } m n Q := by
  obtain ⟨hg, e1, e2, e3, e4, e5, e6⟩ := valid_iff hv
  obtain ⟨hf1, hf2⟩ := e6 f (by simp [-Bool.exists_bool])
  have hbig := hg.big
  have hgN : (mkG N L U).N = N.toNat := rfl
  have dl := hd.len
  rw [hgN] at dl hbig
  intro k
  induction k with
  | zero =>
    intro j m n oa h hle hfs how
    obtain rfl : j = N.toNat := by omega
    refine ⟨m, n, oa, how, hle, hfs, fun Q hq => ?_⟩
    refine W_of mixed (cfg := xcfg) (fuel := 400) ?_
    rw [xRef10Parentsk0]
    exact condDF (by omega) hq
  | succ k ih =>
    intro j m n oa h hle hfs how
    obtain ⟨m1, n1, a1, l, hl, ow1, le1, fs1, run1⟩ := rnext_c (N := N) (f := (j : Int)) (t := f) rfl rfl (hL.le hle) (hU.le hle)
    have hl : l = nextL (mkG N L U) d j := by
      unfold NextR at hl
      rw [if_pos (by rw [valid_two, valid_at hv (show j < N.toNat by omega), hv]; rfl)] at hl
      obtain ⟨d', hd', rfl⟩ := hl
      rw [hd'.uniq hg hd]; rfl
    have h0 := hle.le
    have l1 := le1.le
    have hw := wrapN (k := j) (by omega)
    -- the append
    have app : ∀ (p : Int), p = par (mkG N L U) d j → ∃ m' n' a', Ow m' n0 n' tInt 1 a' N.toNat N.toNat ((parentsL (mkG N L U) d).map vi) ∧ Le m0 n0 m' n' ∧ (Fs m0 n0 → Fs m' n') ∧ ∀ Q : Value → Mem → Nat → Prop, Q (.slice a' N.toNat N.toNat) m' n' →
        ∃ p7 k8 k9 m10 k11, appendA Try.prog (m1.set n1 (.cells none tInt 1 [vi p])) (n1 + 1) tLint tLint (.slice oa j j) (.slice (some ⟨n1, 0, none⟩) 1 1) = .val (.slice p7 k8 k9) m10 k11 ∧ W Try.prog { fn := fRef10Parents, nt := 43, slots := [(0, vi N), (1, .slice la L.length lc), (2, .slice ua U.length uc), (3, vi f), (9, .slice da d.length dc), (10, .slice p7 k8 k9), (11, vi ((j + 1 : Nat) : Int))], todo := pt Try.prog fRef10Parents [1, 1, 1, 0, 1, 0, 0] } m10 k11 Q := by
      intro p hp
      generalize hm4 : m1.set n1 (.cells none tInt 1 [vi p]) = m4
      have hle4 : Le m1 n1 m4 (n1 + 1) := by rw [← hm4]; exact Le.new
      have hsc : sliceCells m4 1 1 (.slice (some ⟨n1, 0, none⟩) 1 1) = some [vi p] := one_cell (T := tInt) (sz := 1) (by rw [← hm4]; simp [-Bool.exists_bool, Tr.get_set])
      obtain ⟨a5, m5, n5, r1, r2, r3, r4, r5, r6⟩ := (how.le (le1.trans hle4)).append (t := tLint) (k := 1) intOk hsc (by simp [-Bool.exists_bool, cellOk]) (by simp [-Bool.exists_bool]) (by omega) (by omega)
      have em : ((List.range j).map (par (mkG N L U) d)).map vi ++ [vi p] = ((List.range (j + 1)).map (par (mkG N L U) d)).map vi := by rw [List.range_succ]; simp [-Bool.exists_bool, hp]
      rw [em] at r2
      obtain ⟨m', n', a', s1, s2, s3, run⟩ := ih (j + 1) m5 n5 a5 (by omega) ⟨by omega, fun q hq => by rw [r5 q (by omega) fun b o s e => by have := (how.bnd e).1; omega]; exact ((hle.trans le1).trans hle4).same q hq⟩ (fun hf => r6 (by rw [← hm4]; exact (fs1 (hfs hf)).set)) r2
      exact ⟨m', n', a', s1, s2, s3, fun Q hq => ⟨_, _, _, _, _, r1, run Q hq⟩⟩
    rcases par_cases (g := mkG N L U) (d := d) (v := j) with ⟨h1, h2⟩ | ⟨i, w, c, r, h1, h2, _⟩
    · obtain ⟨m', n', a', s1, s2, s3, run⟩ := app (-1) h2.symm
      refine ⟨m', n', a', s1, s2, s3, fun Q hq => ?_⟩
      refine W_of mixed (cfg := xcfg) (fuel := 400) ?_
      rw [xRef10Parentsk0, hw]
      exact condDT (by omega) (run1 _ ⟨_, _, _, rfl, Later.mk (condET (by rw [hl, h1]; rfl) (memLet.mk fun mm e => by subst e; exact run Q hq))⟩)
    · obtain ⟨m', n', a', s1, s2, s3, run⟩ := app (i : Int) h2.symm
      refine ⟨m', n', a', s1, s2, s3, fun Q hq => ?_⟩
      refine W_of mixed (cfg := xcfg) (fuel := 400) ?_
      rw [xRef10Parentsk0, hw]
      refine condDT (by omega) (run1 _ ⟨_, _, _, rfl, Later.mk (condEF (by rw [hl, h1]; simp; omega) ?_)⟩)
      have hpos : 0 < l.length := by rw [hl, h1]; simp [-Bool.exists_bool]
      have key := ow1.sl.ldi (i := 0) hpos (K := fun x9 => x9 = (i : Int)) (by simp [-Bool.exists_bool, hl, h1])
      revert key
      generalize hz : (a1 : Option Addr) = az
      intro key
      rcases az with _ | ⟨b9, o9, s9⟩
      · exact key.elim
      · obtain ⟨⟨_, t2, t3, t4⟩, x9, t5, t6⟩ := key
        refine ⟨⟨by omega, by omega, t3, t4⟩, x9, by simpa [-Bool.exists_bool] using t5, memLet.mk fun mm e => ?_⟩
        subst e
        rw [t6]; exact run Q hq
theorem rparents_c {f : Int} (hll : L.length = ll) (hul : U.length = ul) (hL : Sl m n la lc (L.flatMap encL)) (hU : Sl m n ua uc (U.map Value.bool)) :
    ∃ m' n' a D, ParR N L U f D ∧ Ow m' n n' tInt 1 a D.length D.length (D.map vi) ∧ Le m n m' n' ∧ (Fs m n → Fs m' n') ∧ Exact Try.prog fRef10Parents [vi N, .slice la ll lc, .slice ua ul uc, vi f] m n (.slice a D.length D.length) m' n' := by
  subst hll; subst hul
  obtain ⟨m1, n1, a1, d, hd, ow1, le1, fs1, run1⟩ := rdist_c (N := N) (f := f) rfl rfl hL hU
  have l1 := le1.le
  cases hv : validP N L U.length [f] with
  | false =>
    have hd0 : d = [] := by unfold DistR at hd; rw [if_neg (by simp [-Bool.exists_bool, hv])] at hd; exact hd
    subst hd0
    refine ⟨m1, n1, none, [], by unfold ParR; rw [if_neg (by simp [-Bool.exists_bool, hv])], Ow.nil, le1, fs1, fun Q hq => ?_⟩
    refine Wc_of mixed (cfg := xcfg) (fuel := 400) ?_
    rw [xRef10Parents]
    refine run1 _ ⟨_, _, _, rfl, Later.mk ?_⟩
    refine W_of mixed (cfg := xcfg) (fuel := 400) ?_
    rw [xRef10Parentsk0]
    exact condDF (by simp [-Bool.exists_bool]) hq
  | true =>
    have hd : IsDist (mkG N L U) f.toNat d := by unfold DistR at hd; rw [if_pos hv] at hd; exact hd
    obtain ⟨m', n', a', r1, r2, r3, run⟩ := rparents_loop (m0 := m1) (n0 := n1) (da := a1) (dc := d.length) hv hd (hL.le le1) (hU.le le1) N.toNat 0 m1 n1 none (by omega) Le.refl id Ow.nil
    have hpl : (parentsL (mkG N L U) d).length = N.toNat := by simp [-Bool.exists_bool, parentsL, mkG]
    refine ⟨m', n', a', parentsL (mkG N L U) d, by unfold ParR; rw [if_pos hv]; exact ⟨d, hd, rfl⟩, by rw [hpl]; exact r1.low (by omega), le1.trans r2, fun hf => r3 (fs1 hf), fun Q hq => ?_⟩
    rw [hpl] at hq
    refine Wc_of mixed (cfg := xcfg) (fuel := 400) ?_
    rw [xRef10Parents]
    exact run1 _ ⟨_, _, _, rfl, Later.mk (run Q hq)⟩

theorem rpath_loop {m0 : Mem} {n0 : Nat} {d : List Int} {pa : Option Addr} {pc : Nat} (hg : (mkG N L U).Ok) (hul : U.length = L.length) (hL : Sl m0 n0 la lc (L.flatMap encL)) (hP : Sl m0 n0 pa pc ((parentsL (mkG N L U) d).map vi)) {v : Nat} {l : List Int} (hb : Back (mkG N L U) d v l) :
    ∀ (O : List Int) (m : Mem) (n : Nat) (oa : Option Addr), v < N.toNat → O.length + l.length ≤ 100000 → Le m0 n0 m n → (Fs m0 n0 → Fs m n) → Ow m n0 n tInt 1 oa O.length O.length (O.map vi) →
    ∃ m' n' a', Ow m' n0 n' tInt 1 a' (l.reverse ++ O).length (l.reverse ++ O).length ((l.reverse ++ O).map vi) ∧ Le m0 n0 m' n' ∧ (Fs m0 n0 → Fs m' n') ∧ ∀ Q : Value → Mem → Nat → Prop, Q (.slice a' (l.reverse ++ O).length (l.reverse ++ O).length) m' n' →
      W Try.prog { fn := fRef10Path, nt := 56, slots := [(1, .slice la L.length lc), (11, .slice pa N.toNat pc), (12, .slice oa O.length O.length), (13, vi v)], todo := pt Try.prog fRef10Path [1, 1, 1, 1, 0, 1, 0, 0] } m n Q := by
  have hgN : (mkG N L U).N = N.toNat := rfl
  have hpl : (parentsL (mkG N L U) d).length = N.toNat := by simp [-Bool.exists_bool, parentsL, mkG]
  induction hb with
  | nil h1 =>
    rename_i v
    intro O m n oa hvN hlen hle hfs how
    refine ⟨m, n, oa, by simpa [-Bool.exists_bool] using how, hle, hfs, fun Q hq => ?_⟩
    refine W_of mixed (cfg := xcfg) (fuel := 400) ?_
    rw [xRef10Pathk0]
    refine condDT (by omega) ?_
    have := ldx (hP.le hle) (x := (v : Int)) (by omega) (by omega) (K := fun x3 => x3 = par (mkG N L U) d v) (by rw [show ((v : Int).toNat) = v by omega, gd_parents (by rw [hgN]; exact hvN)])
    rw [hpl] at this
    revert this
    generalize (pa) = pz
    intro this
    rcases pz with _ | ⟨b, o, s⟩
    · exact this.elim
    · obtain ⟨t1, x3, t2, t3⟩ := this
      exact ⟨t1, x3, t2, condDF (by rw [t3]; simp [-Bool.exists_bool, par, h1]) (by simpa [-Bool.exists_bool] using hq)⟩
  | cons h1 s h2 h3 hb ih =>
    rename_i v w i c r l
    intro O m n oa hvN hlen hle hfs how
    have sb := s.bnd hg
    rw [hgN] at sb
    simp only [List.length_cons] at hlen
    obtain ⟨hi, hui, hup, hcc, hot⟩ := st_lists hul s
    have h0 := hle.le
    generalize hm8 : m.set n (.cells none tInt 1 [vi i]) = m8
    have hle8 : Le m n m8 (n + 1) := by rw [← hm8]; exact Le.new
    have ow8 : Ow m8 n (n + 1) tInt 1 (some ⟨n, 0, none⟩) 1 1 [vi i] := by rw [← hm8]; exact Ow.new (Nat.le_refl _) rfl
    obtain ⟨a', m12, n12, r1, r2, r3, r4, r5, r6⟩ := (ow8.low h0).append (t := tLint) (k := O.length) (kc := O.length) intOk ((how.le hle8).sl.cells (by simp [-Bool.exists_bool]) (by omega)) (by simp [-Bool.exists_bool, cellOk]) (by simp [-Bool.exists_bool]) (by omega) (by omega)
    have el : ((i : Int) :: O).length = 1 + O.length := by simp; omega
    have em : [vi i] ++ O.map vi = ((i : Int) :: O).map vi := by simp [-Bool.exists_bool]
    rw [em] at r2
    have hle12 : Le m0 n0 m12 n12 := ⟨by omega, fun q hq => by rw [r5 q (by omega) (by intro b o s e; cases e; omega)]; exact (hle.trans hle8).same q hq⟩
    obtain ⟨m', n', a2, q1, q2, q3, run⟩ := ih ((i : Int) :: O) m12 n12 a' sb.2.1 (by simp; omega) hle12 (fun hf => r6 (by rw [← hm8]; exact (hfs hf).set)) (by rw [el]; exact r2)
    have ea : (((i : Int) :: l).reverse ++ O) = l.reverse ++ (i : Int) :: O := by simp [-Bool.exists_bool]
    rw [ea]
    refine ⟨m', n', a2, q1, q2, q3, fun Q hq => ?_⟩
    have fin := run Q hq
    rw [el] at fin
    have hvv : ((v : Int).toNat) = v := by omega
    have hp : gd (parentsL (mkG N L U) d) (v : Int).toNat = (i : Int) := by rw [hvv, gd_parents (by rw [hgN]; exact hvN)]; simp [-Bool.exists_bool, par, h1]
    have ldp : ∀ {mm : Mem} {nn : Nat} (_ : Le m0 n0 mm nn) {K : Int → Prop}, K (i : Int) → elimA pa False fun k4 k5 p6 => (0 ≤ (v : Int) ∧ (v : Int) < ((N.toNat : Nat) : Int) ∧ liveAt mm k4 = true ∧ (p6 ≠ none → 0 < pc)) ∧ ∃ x7 : Int, rd mm k4 (offOf k5 p6 + (v : Int).toNat * 1) = some (vi x7) ∧ K x7 := fun {mm nn} hl {K} hk => by
      have := ldx (hP.le hl) (x := (v : Int)) (by omega) (by omega) (K := K) (by rw [hp]; exact hk)
      rw [hpl] at this
      exact this
    refine W_of mixed (cfg := xcfg) (fuel := 400) ?_
    rw [xRef10Pathk0]
    refine condDT (by omega) (ldp hle (condDT (by omega) (ldp hle (memLet.mk fun mm e => ?_))))
    have e : mm = m8 := e.trans hm8
    subst e
    refine ⟨_, _, _, _, _, r1, ldp hle12 ?_⟩
    refine (hL.le hle12).ldv encL_len hi (by omega) fun b o s' _ _ rr => ⟨L[i].a, L[i].b, L[i].c, rr, rother_c (l := L[i]) ⟨_, _, rfl, Later.mk ?_⟩⟩
    have hat : (v : Int) = L[i].a ∨ (v : Int) = L[i].b := by
      rcases other_of hot with ⟨o1, _⟩ | ⟨_, o2, _⟩
      · exact .inl o1.symm
      · exact .inr o2.symm
    rw [if_pos hat, hot]
    exact fin
theorem rpath_c {f t : Int} (hll : L.length = ll) (hul : U.length = ul) (hL : Sl m n la lc (L.flatMap encL)) (hU : Sl m n ua uc (U.map Value.bool)) :
    ∃ m' n' a D, PathR N L U f t D ∧ Ow m' n n' tInt 1 a D.length D.length (D.map vi) ∧ Le m n m' n' ∧ (Fs m n → Fs m' n') ∧ Exact Try.prog fRef10Path [vi N, .slice la ll lc, .slice ua ul uc, vi f, vi t] m n (.slice a D.length D.length) m' n' := by
  subst hll; subst hul
  cases ht : validP N L U.length [t] with
  | false =>
    refine ⟨m, n, none, [], by unfold PathR; rw [if_neg (by rw [valid_two, ht]; simp [-Bool.exists_bool])], Ow.nil, Le.refl, id, fun Q hq => ?_⟩
    refine Wc_of mixed (cfg := xcfg) (fuel := 400) ?_
    rw [xRef10Path]
    refine rvalid_c rfl hL ⟨_, rfl, Later.mk ?_⟩
    rw [ht]
    exact condT rfl hq
  | true =>
    obtain ⟨hg, e1, e2, e3, e4, e5, e6⟩ := valid_iff ht
    obtain ⟨ht1, ht2⟩ := e6 t (by simp [-Bool.exists_bool])
    obtain ⟨m1, n1, a1, P, hP, ow1, le1, fs1, run1⟩ := rparents_c (N := N) (f := f) rfl rfl hL hU
    have l1 := le1.le
    cases hv : validP N L U.length [f] with
    | false =>
      have hP0 : P = [] := by unfold ParR at hP; rw [if_neg (by simp [-Bool.exists_bool, hv])] at hP; exact hP
      subst hP0
      refine ⟨m1, n1, none, [], by unfold PathR; rw [if_neg (by rw [valid_two, hv]; simp [-Bool.exists_bool])], Ow.nil, le1, fs1, fun Q hq => ?_⟩
      refine Wc_of mixed (cfg := xcfg) (fuel := 400) ?_
      rw [xRef10Path]
      refine rvalid_c rfl hL ⟨_, rfl, Later.mk ?_⟩
      rw [ht]
      refine condF rfl (run1 _ ⟨_, _, _, rfl, Later.mk ?_⟩)
      refine W_of mixed (cfg := xcfg) (fuel := 400) ?_
      rw [xRef10Pathk0]
      exact condDF (by simp [-Bool.exists_bool]) hq
    | true =>
      unfold ParR at hP
      rw [if_pos hv] at hP
      obtain ⟨d, hd, rfl⟩ := hP
      obtain ⟨l, hl⟩ := back_ex hg (d := d) ((gd d t.toNat).toNat + 1) t.toNat (by omega)
      have hll := hl.len hg
      have hval := hd.val t.toNat
      have hpl : (parentsL (mkG N L U) d).length = N.toNat := by simp [-Bool.exists_bool, parentsL, mkG]
      obtain ⟨m', n', a', q1, q2, q3, run⟩ := rpath_loop (m0 := m1) (n0 := n1) hg e4 (hL.le le1) ow1.sl hl [] m1 n1 none ht2 (by simp; omega) Le.refl id Ow.nil
      rw [List.append_nil] at q1 run
      refine ⟨m', n', a', l.reverse, by unfold PathR; rw [if_pos (by rw [valid_two, hv, ht]; rfl)]; exact ⟨d, l, hd, hl, rfl⟩, q1.low (by omega), le1.trans q2, fun hf => q3 (fs1 hf), fun Q hq => ?_⟩
      refine Wc_of mixed (cfg := xcfg) (fuel := 400) ?_
      rw [xRef10Path]
      refine rvalid_c rfl hL ⟨_, rfl, Later.mk ?_⟩
      rw [ht]
      refine condF rfl (run1 _ ⟨_, _, _, rfl, Later.mk ?_⟩)
      have := run Q hq
      rw [← ht1] at this
      rw [hpl] at this ⊢
      exact this
end
end Go.Proofs.Ytenpbdanffacjaa

namespace Go.Proofs.Ytenpbdanffacjaa
open Go Go.Ab Spf
/-- The state of the reference's Paths: what is done and how many. -/
structure PI (g : G) (d : List Int) (t : Nat) (k : Nat) (C : List Int) (R : List Bool) : Prop where
  cl : C.length = g.N
  rl : R.length = g.N
  cnt : R.countP id = k
  don : ∀ v, gb R v = true → 0 ≤ gd d v ∧ gd C v = pathsN g d t v
  und : ∀ v, v < g.N → gb R v = false → gd C v = if v = t then 1 else 0
  ord : ∀ u v, gb R u = true → v < g.N → gb R v = false → 0 ≤ gd d v → gd d u ≤ gd d v
theorem gb_count {R : List Bool} {v : Nat} (hv : v < R.length) (h : gb R v = false) : (R.set v true).countP id = R.countP id + 1 := by
  rw [List.countP_set hv]
  have : R[v] = false := by rw [gb_get hv]; exact h
  simp [-Bool.exists_bool, this]
theorem gb_all {R : List Bool} (h : R.countP id = R.length) {v : Nat} (hv : v < R.length) : gb R v = true := by
  have := List.countP_eq_length.1 h (R[v]) (List.getElem_mem hv)
  rw [gb_get hv] at this
  simpa [-Bool.exists_bool] using this
/-- The one that is taken next. -/
def Least (g : G) (d : List Int) (R : List Bool) (i : Nat) (x : Int) : Prop :=
  (x = -1 ∧ ∀ j, j < i → gb R j = false → gd d j < 0) ∨ ∃ w : Nat, x = (w : Int) ∧ w < g.N ∧ gb R w = false ∧ 0 ≤ gd d w ∧ ∀ j, j < i → gb R j = false → 0 ≤ gd d j → gd d w ≤ gd d j
theorem PI.next_done {g : G} (hg : g.Ok) {d : List Int} {t k : Nat} {C : List Int} {R : List Bool} (h : PI g d t k C R) {w : Nat} (hmin : ∀ j, j < g.N → gb R j = false → 0 ≤ gd d j → gd d w ≤ gd d j) {x : Int} (hx : x ∈ nextL g d w) :
    ∃ (i v : Nat) (c : Int), x = (i : Int) ∧ St g i w v c ∧ otherAt g x w = v ∧ v < g.N ∧ gb R v = true ∧ v ≠ w := by
  obtain ⟨i, v, c, rfl, s, h0, h1⟩ := next_st.1 hx
  have sb := s.bnd hg
  refine ⟨i, v, c, rfl, s, s.otherAt, sb.2.1, ?_, Ne.symm sb.2.2.1⟩
  cases hb : gb R v with
  | true => rfl
  | false => have := hmin v sb.2.1 hb h0; omega
section
variable {m m' : Mem} {n n' : Nat} {N : Int} {L : List Lk} {U : List Bool} {la ua : Option Addr} {ll lc ul uc : Nat}
/-- The blocks of the counts and of the marks. -/
structure PW (m0 : Mem) (n0 : Nat) (m : Mem) (n c r : Nat) (C : List Int) (R : List Bool) : Prop where
  gc : m.get c = some (.cells none tInt 1 (C.map vi))
  gr : m.get r = some (.cells none tBool 1 (R.map Value.bool))
  le : Le m0 n0 m n
  fs : Fs m0 n0 → Fs m n
  lo : n0 ≤ c ∧ n0 ≤ r
  lt : c < n ∧ r < n
  ne : c ≠ r
theorem PW.sc {m0 : Mem} {n0 c r : Nat} {C : List Int} {R : List Bool} (h : PW m0 n0 m n c r C R) (k : Nat) : Sl m n (some ⟨c, 0, none⟩) k (C.map vi) :=
  .inr ⟨c, 0, none, C.map vi, rfl, h.lt.1, by simp [-Bool.exists_bool, cellsOf, h.gc], fun _ => ⟨by simp [-Bool.exists_bool, liveAt, h.gc], fun h => (h rfl).elim, by simp [-Bool.exists_bool, nilAt, h.gc]⟩, by simp, by simp only [offOf, List.drop_zero]; exact List.take_of_length_le (Nat.le_refl _)⟩
theorem PW.sr {m0 : Mem} {n0 c r : Nat} {C : List Int} {R : List Bool} (h : PW m0 n0 m n c r C R) (k : Nat) : Sl m n (some ⟨r, 0, none⟩) k (R.map Value.bool) :=
  .inr ⟨r, 0, none, R.map Value.bool, rfl, h.lt.2, by simp [-Bool.exists_bool, cellsOf, h.gr], fun _ => ⟨by simp [-Bool.exists_bool, liveAt, h.gr], fun h => (h rfl).elim, by simp [-Bool.exists_bool, nilAt, h.gr]⟩, by simp, by simp only [offOf, List.drop_zero]; exact List.take_of_length_le (Nat.le_refl _)⟩
theorem PW.ext {m0 : Mem} {n0 c r : Nat} {C : List Int} {R : List Bool} (h : PW m0 n0 m n c r C R) (l : Le m n m' n') (fs : Fs m n → Fs m' n') : PW m0 n0 m' n' c r C R :=
  ⟨l.get h.lt.1 h.gc, l.get h.lt.2 h.gr, h.le.trans l, fun hf => fs (h.fs hf), h.lo, by have := h.lt; have := l.le; omega, h.ne⟩
theorem PW.putC {m0 : Mem} {n0 c r : Nat} {C : List Int} {R : List Bool} (h : PW m0 n0 m n c r C R) {x : Int} (h0 : 0 ≤ x) (h1 : x < C.length) (y : Int) :
    ∃ m', liveAt m c = true ∧ storeCs m c (offOf 0 none + x.toNat * 1) [vi y] = some m' ∧ PW m0 n0 m' n c r (C.set x.toNat y) R := by
  have st := store_of (off := x.toNat) (vs := [vi y]) h.gc (by simp; omega) (by simp [-Bool.exists_bool, cellOk])
  simp only [List.length_singleton] at st
  rw [map_take_drop_set vi C x.toNat y (by omega)] at st
  exact ⟨_, by simp [-Bool.exists_bool, liveAt, h.gc], by simpa [-Bool.exists_bool] using st, ⟨by simp [-Bool.exists_bool, Tr.get_set], by rw [Tr.get_set, if_neg h.ne]; exact h.gr, ⟨h.le.le, fun j hj => by rw [Tr.get_set, if_neg (by have := h.lo; omega)]; exact h.le.same j hj⟩, fun hf => (h.fs hf).in_ h.lt.1, h.lo, h.lt, h.ne⟩⟩
theorem PW.putR {m0 : Mem} {n0 c r : Nat} {C : List Int} {R : List Bool} (h : PW m0 n0 m n c r C R) {x : Int} (h0 : 0 ≤ x) (h1 : x < R.length) (y : Bool) :
    ∃ m', liveAt m r = true ∧ storeCs m r (offOf 0 none + x.toNat * 1) [.bool y] = some m' ∧ PW m0 n0 m' n c r C (R.set x.toNat y) := by
  have st := store_of (off := x.toNat) (vs := [.bool y]) h.gr (by simp; omega) (by simp [-Bool.exists_bool, cellOk])
  simp only [List.length_singleton] at st
  rw [map_take_drop_set Value.bool R x.toNat y (by omega)] at st
  exact ⟨_, by simp [-Bool.exists_bool, liveAt, h.gr], by simpa [-Bool.exists_bool] using st, ⟨by rw [Tr.get_set, if_neg (Ne.symm h.ne)]; exact h.gc, by simp [-Bool.exists_bool, Tr.get_set], ⟨h.le.le, fun j hj => by rw [Tr.get_set, if_neg (by have := h.lo; omega)]; exact h.le.same j hj⟩, fun hf => (h.fs hf).in_ h.lt.2, h.lo, h.lt, h.ne⟩⟩

@[reducible] noncomputable def frP (N : Int) (la : Option Addr) (ll lc : Nat) (ua : Option Addr) (ul uc : Nat) (f t : Int) (da : Option Addr) (dl dc c r : Nat) : Slots := [(0, vi N), (1, .slice la ll lc), (2, .slice ua ul uc), (3, vi f), (4, vi t), (11, .slice da dl dc), (12, .slice (some ⟨c, 0, none⟩) N.toNat N.toNat), (13, .slice (some ⟨r, 0, none⟩) N.toNat N.toNat)]
/-- The sum of a node's next ones. -/
theorem rsum {m0 : Mem} {n0 c r : Nat} {f t : Int} {d : List Int} {da : Option Addr} {dc : Nat} (hg : (mkG N L U).Ok) (hul : U.length = L.length) (hL : Sl m0 n0 la lc (L.flatMap encL)) {R : List Bool} {w : Nat} (hwN : w < N.toNat) {pa : Option Addr} {pc : Nat} (k : Int) {C0 : List Int}
    (hnx : ∀ x ∈ nextL (mkG N L U) d w, ∃ (i v : Nat) (c : Int), x = (i : Int) ∧ St (mkG N L U) i w v c ∧ otherAt (mkG N L U) x w = v ∧ v < N.toNat ∧ gd C0 v = pathsN (mkG N L U) d t.toNat v ∧ v ≠ w) :
    ∀ (l pre : List Int) (acc : Int) (m : Mem) (n : Nat) (C : List Int), nextL (mkG N L U) d w = pre ++ l → 0 ≤ acc → acc ≤ 1073741824 → C.length = N.toNat → C = C0.set w acc → C0.length = N.toNat → PW m0 n0 m n c r C R → Sl m n pa pc ((nextL (mkG N L U) d w).map vi) → (∀ o s, pa ≠ some ⟨c, o, s⟩) →
    ∃ m' n', PW m0 n0 m' n' c r (C0.set w (l.foldl (fun a i => addM a (pathsN (mkG N L U) d t.toNat (otherAt (mkG N L U) i w))) acc)) R ∧ ∀ Q : Value → Mem → Nat → Prop,
      W Try.prog { fn := fRef10Paths, nt := 131, slots := frP N la L.length lc ua U.length uc f t da d.length dc c r ++ [(14, vi (IntKind.i64.wrap (k + 1)))], todo := pt Try.prog fRef10Paths [1, 1, 1, 1, 1, 1, 0, 1, 0, 0] } m' n' Q →
      W Try.prog { fn := fRef10Paths, nt := 131, slots := frP N la L.length lc ua U.length uc f t da d.length dc c r ++ [(14, vi k), (15, vi w), (17, .slice pa (nextL (mkG N L U) d w).length pc), (18, .int .i64 pre.length)], todo := pt Try.prog fRef10Paths [1, 1, 1, 1, 1, 1, 0, 1, 0, 0, 1, 0, 0, 1, 1, 1, 1, 1, 1, 0, 0] } m n Q := by
  have hnl := next_len (g := mkG N L U) hg (d := d) (v := w)
  intro l
  induction l with
  | nil =>
    intro pre acc m n C hp h0 h1 hCl hC hC0 pw sl hap
    simp only [List.foldl_nil]
    subst hC
    refine ⟨m, n, pw, fun Q hq => ?_⟩
    refine W_of mixed (cfg := xcfg) (fuel := 400) ?_
    simp only [frP, List.cons_append, List.nil_append] at hq ⊢
    rw [xRef10Pathsk2]
    exact condDF (by simp [-Bool.exists_bool, hp]) hq
  | cons x l ih =>
    intro pre acc m n C hp h0 h1 hCl hC hC0 pw sl hap
    have hlt : pre.length < (nextL (mkG N L U) d w).length := by rw [hp]; simp [-Bool.exists_bool]
    have hx : (nextL (mkG N L U) d w)[pre.length] = x := by simp [-Bool.exists_bool, hp]
    obtain ⟨i, v, cc, rfl, s, ho, hvN, hCv, hvw⟩ := hnx x (by rw [hp]; simp [-Bool.exists_bool])
    obtain ⟨hi, hui, hup, hcc, hot⟩ := st_lists hul s
    have hb := pathsN_bnd (g := mkG N L U) (d := d) (t := t.toNat) (v := v)
    have hwl : w < C0.length := by omega
    have gw : gd C w = acc := by rw [hC, gd_set hwl, if_pos rfl]
    have gv : gd C v = pathsN (mkG N L U) d t.toNat v := by rw [hC, gd_set hwl, if_neg hvw]; exact hCv
    have hwr : IntKind.i64.wrap (acc + pathsN (mkG N L U) d t.toNat v) = acc + pathsN (mkG N L U) d t.toNat v := wrap_id (by omega) (by omega)
    obtain ⟨m1, lv, st, pw1⟩ := pw.putC (x := (w : Int)) (by omega) (by omega) (addM acc (pathsN (mkG N L U) d t.toNat v))
    have hww : ((w : Int).toNat) = w := by omega
    rw [hww] at pw1
    have hset : (C0.set w acc).set w (addM acc (pathsN (mkG N L U) d t.toNat v)) = C0.set w (addM acc (pathsN (mkG N L U) d t.toNat v)) := List.set_set ..
    have hst : storeCs m c (offOf 0 none + (w : Int).toNat * 1) [vi (addM acc (pathsN (mkG N L U) d t.toNat v))] = some m1 := st
    have k1 : ∀ j, j ≠ c → m1.get j = m.get j := fun j hj => by
      have e := store_of (off := (w : Int).toNat) (vs := [vi (addM acc (pathsN (mkG N L U) d t.toNat v))]) pw.gc (by simp; omega) (by simp [-Bool.exists_bool, cellOk])
      have e2 : storeCs m c ((w : Int).toNat) [vi (addM acc (pathsN (mkG N L U) d t.toNat v))] = some m1 := by simpa [-Bool.exists_bool] using hst
      rw [e] at e2
      have := Option.some.inj e2
      rw [← this, Tr.get_set, if_neg (fun h => hj h.symm)]
    have sl1 : Sl m1 (n + 14) pa pc ((nextL (mkG N L U) d w).map vi) := sl.same (by omega) fun b o s e => k1 b (by rintro rfl; exact hap _ _ e)
    obtain ⟨m', n', r1, run⟩ := ih (pre ++ [(i : Int)]) (addM acc (pathsN (mkG N L U) d t.toNat v)) m1 (n + 14) (C.set w (addM acc (pathsN (mkG N L U) d t.toNat v))) (by simp [-Bool.exists_bool, hp]) (by unfold addM; split <;> omega) (by unfold addM; split <;> omega) (by simp; exact hCl) (by rw [hC, hset]) hC0 (pw1.ext (Le.refl.up (by omega)) fun hf => hf.up (by omega)) sl1 hap
    simp only [List.foldl_cons, ho]
    refine ⟨m', n', r1, fun Q hq => ?_⟩
    have hlen : (((pre ++ [(i : Int)]).length : Nat) : Int) = ((pre.length + 1 : Nat) : Int) := by simp [-Bool.exists_bool]
    have fin := run Q hq
    rw [hlen, ← wrapN (k := pre.length) (by omega)] at fin
    refine W_of mixed (cfg := xcfg) (fuel := 400) ?_
    simp only [frP, List.cons_append, List.nil_append] at fin ⊢
    rw [xRef10Pathsk2]
    refine condDT (by omega) (sl.ldi hlt ?_)
    rw [hx]
    have hat : (w : Int) = L[i].a ∨ (w : Int) = L[i].b := by
      rcases other_of hot with ⟨o1, _⟩ | ⟨_, o2, _⟩
      · exact .inl o1.symm
      · exact .inr o2.symm
    refine (hL.le pw.le).ldv encL_len hi (by omega) fun b o s' _ _ rr => ⟨L[i].a, L[i].b, L[i].c, rr, rother_c (l := L[i]) ⟨_, _, rfl, Later.mk ?_⟩⟩
    rw [if_pos hat, hot]
    have sC := pw.sc N.toNat
    have hcl : ((C.length : Nat) : Int) = ((N.toNat : Nat) : Int) := by omega
    have ldc : ∀ {x : Nat} (_ : x < N.toNat) {K : Int → Prop}, K (gd C x) → (0 ≤ (x : Int) ∧ (x : Int) < ((N.toNat : Nat) : Int) ∧ liveAt m c = true ∧ ((none : Option Nat) ≠ none → 0 < N.toNat)) ∧ ∃ y : Int, rd m c (offOf 0 none + (x : Int).toNat * 1) = some (vi y) ∧ K y := fun {x} hx {K} hk => by
      have := ldx sC (x := (x : Int)) (by omega) (by omega) (K := K) (by rw [show ((x : Int).toNat) = x by omega]; exact hk)
      rw [hcl] at this
      exact this
    refine ldc hwN (ldc hvN ⟨⟨by omega, by omega, lv, fun h => (h rfl).elim⟩, m1, ?_, Nat.le_refl _, fin⟩)
    rw [gw, gv, hwr]
    exact hst
/-- The choice of the nearest one that is not done. -/
theorem rpick {m0 : Mem} {n0 c r : Nat} {f t k : Int} {d : List Int} {da : Option Addr} {dc : Nat} (hN : N.toNat ≤ 32) (hN1 : 1 ≤ N) (hgl : d.length = N.toNat) (hd0 : Sl m0 n0 da dc (d.map vi)) {C : List Int} {R : List Bool} (hr : R.length = N.toNat) {Q : Value → Mem → Nat → Prop} {m : Mem}
    (fin : ∀ (x : Int) (n : Nat), Least (mkG N L U) d R N.toNat x → PW m0 n0 m n c r C R → W Try.prog { fn := fRef10Paths, nt := 131, slots := frP N la ll lc ua ul uc f t da d.length dc c r ++ [(14, vi k), (15, vi x), (16, vi (N.toNat : Nat))], todo := pt Try.prog fRef10Paths [1, 1, 1, 1, 1, 1, 0, 1, 0, 0, 1, 0, 0, 1, 0, 1, 0, 0] } m n Q) :
    ∀ (j i : Nat) (x : Int) (n : Nat), i + j = N.toNat → Least (mkG N L U) d R i x → PW m0 n0 m n c r C R →
      W Try.prog { fn := fRef10Paths, nt := 131, slots := frP N la ll lc ua ul uc f t da d.length dc c r ++ [(14, vi k), (15, vi x), (16, vi i)], todo := pt Try.prog fRef10Paths [1, 1, 1, 1, 1, 1, 0, 1, 0, 0, 1, 0, 0, 1, 0, 1, 0, 0] } m n Q := by
  intro j
  induction j with
  | zero =>
    intro i x n h hl pw
    obtain rfl : i = N.toNat := by omega
    exact fin x n hl pw
  | succ j ih =>
    intro i x n h hl pw
    have hw := wrapN (k := i) (by omega)
    have pw' : PW m0 n0 m (n + 27) c r C R := pw.ext (Le.refl.up (by omega)) fun hf => hf.up (by omega)
    have nxt := fun x' hx' => ih (i + 1) x' (n + 27) (by omega) hx' pw'
    simp only [frP, List.cons_append, List.nil_append] at nxt
    rw [← hw] at nxt
    have hii : ((i : Int).toNat) = i := by omega
    have sR := pw.sr N.toNat
    have sd := hd0.le pw.le
    have hrl : ((R.length : Nat) : Int) = ((N.toNat : Nat) : Int) := by omega
    have hiN : (i : Int) < N := by omega
    refine W_of mixed (cfg := xcfg) (fuel := 400) ?_
    simp only [frP, List.cons_append, List.nil_append]
    rw [xRef10Pathsk1]
    refine condDT hiN ?_
    have ldr : ∀ {K : Bool → Prop}, K (gb R i) → (0 ≤ (i : Int) ∧ (i : Int) < ((N.toNat : Nat) : Int) ∧ liveAt m r = true ∧ ((none : Option Nat) ≠ none → 0 < N.toNat)) ∧ ∃ y : Bool, rd m r (offOf 0 none + (i : Int).toNat * 1) = some (.bool y) ∧ K y := fun {K} hk => by
      have := ldxb sR (x := (i : Int)) (by omega) (by omega) (K := K) (by rw [hii]; exact hk)
      rw [hrl] at this
      exact this
    refine ldr ?_
    have same : (gb R i = true ∨ gd d i < 0) → Least (mkG N L U) d R (i + 1) x := fun hs => by
      rcases hl with ⟨e, h1⟩ | ⟨w, e, h1, h2, h3, h4⟩
      · refine .inl ⟨e, fun q hq hb => ?_⟩
        by_cases hqi : q = i
        · subst hqi; rcases hs with hs | hs; (· rw [hs] at hb; cases hb); (· exact hs)
        · exact h1 q (by omega) hb
      · refine .inr ⟨w, e, h1, h2, h3, fun q hq hb h0 => ?_⟩
        by_cases hqi : q = i
        · subst hqi; rcases hs with hs | hs; (· rw [hs] at hb; cases hb); (· omega)
        · exact h4 q (by omega) hb h0
    cases hb : gb R i with
    | true => exact condF rfl (nxt x (same (.inl hb)))
    | false =>
      refine condT rfl (ldx sd (by omega) (by omega) ?_)
      rw [hii]
      refine condD (fun h0 => ?_) fun h0 => nxt x (same (.inr (by omega)))
      rcases hl with ⟨e, h1⟩ | ⟨w, e, h1, h2, h3, h4⟩
      · subst e
        exact condDT (by omega) (nxt (i : Int) (.inr ⟨i, rfl, by show i < N.toNat; omega, hb, h0, fun q hq hbq h0q => by
          by_cases hqi : q = i
          · subst hqi; exact Int.le_refl _
          · have := h1 q (by omega) hbq; omega⟩))
      · subst e
        have hwN : w < N.toNat := h1
        have hww : ((w : Int).toNat) = w := by omega
        refine condDF (by omega) (ldx sd (by omega) (by omega) (ldx sd (by omega) (by omega) ?_))
        rw [hii, hww]
        refine condD (fun hlt => nxt (i : Int) (.inr ⟨i, rfl, by show i < N.toNat; omega, hb, h0, fun q hq hbq h0q => ?_⟩)) fun hge => nxt (w : Int) (.inr ⟨w, rfl, h1, h2, h3, fun q hq hbq h0q => ?_⟩)
        · by_cases hqi : q = i
          · subst hqi; exact Int.le_refl _
          · have := h4 q (by omega) hbq h0q; omega
        · by_cases hqi : q = i
          · subst hqi; omega
          · exact h4 q (by omega) hbq h0q
end
end Go.Proofs.Ytenpbdanffacjaa

namespace Go.Proofs.Ytenpbdanffacjaa
open Go Go.Ab Spf
theorem PI.step {g : G} (hg : g.Ok) {d : List Int} {t k : Nat} (hd : IsDist g t d) {C : List Int} {R : List Bool} (h : PI g d t k C R) {w : Nat} (hwN : w < g.N) (hb : gb R w = false) (h0 : 0 ≤ gd d w) (hmin : ∀ j, j < g.N → gb R j = false → 0 ≤ gd d j → gd d w ≤ gd d j) :
    PI g d t (k + 1) (C.set w ((nextL g d w).foldl (fun a i => addM a (pathsN g d t (otherAt g i w))) (gd C w))) (R.set w true) := by
  have hwC : w < C.length := by rw [h.cl]; exact hwN
  have hwR : w < R.length := by rw [h.rl]; exact hwN
  have hval : (nextL g d w).foldl (fun a i => addM a (pathsN g d t (otherAt g i w))) (gd C w) = pathsN g d t w := by
    rw [h.und w hwN hb]
    by_cases e : w = t
    · subst e
      rw [if_pos rfl, next_end hg hd, List.foldl_nil, pathsN_eq hg, if_pos rfl]
    · rw [if_neg e]
      conv => rhs; rw [pathsN_eq hg, if_neg e]
  rw [hval]
  refine ⟨by simpa [-Bool.exists_bool] using h.cl, by simpa [-Bool.exists_bool] using h.rl, by rw [gb_count hwR hb, h.cnt], fun v hv => ?_, fun v hvN hv => ?_, fun u v hu hvN hv hv0 => ?_⟩
  · rw [gb_set hwR] at hv
    rw [gd_set hwC]
    by_cases e : v = w
    · subst e; rw [if_pos rfl]; exact ⟨h0, rfl⟩
    · rw [if_neg e] at hv ⊢; exact h.don v hv
  · rw [gb_set hwR] at hv
    rw [gd_set hwC]
    by_cases e : v = w
    · subst e; rw [if_pos rfl] at hv; cases hv
    · rw [if_neg e] at hv ⊢; exact h.und v hvN hv
  · rw [gb_set hwR] at hu hv
    by_cases ev : v = w
    · subst ev; rw [if_pos rfl] at hv; cases hv
    · rw [if_neg ev] at hv
      by_cases eu : u = w
      · subst eu; exact hmin v hvN hv hv0
      · rw [if_neg eu] at hu; exact h.ord u v hu hvN hv hv0
section
variable {m m' : Mem} {n n' : Nat} {N : Int} {L : List Lk} {U : List Bool} {la ua : Option Addr} {ll lc ul uc : Nat}
theorem rpaths_loop {m0 : Mem} {n0 c r : Nat} {f t : Int} {d : List Int} {da : Option Addr} {dc : Nat} (hvf : validP N L U.length [f] = true) (hvt : validP N L U.length [t] = true) (hL : Sl m0 n0 la lc (L.flatMap encL)) (hU : Sl m0 n0 ua uc (U.map Value.bool)) (hd : IsDist (mkG N L U) t.toNat d) (sd : Sl m0 n0 da dc (d.map vi)) {Q : Value → Mem → Nat → Prop}
    (hq : ∀ m' n', Le m0 n0 m' n' → Q (vi (pathsN (mkG N L U) d t.toNat f.toNat)) m' n') :
    ∀ (j k : Nat) (m : Mem) (n : Nat) (C : List Int) (R : List Bool), k + j = N.toNat → PI (mkG N L U) d t.toNat k C R → PW m0 n0 m n c r C R →
      W Try.prog { fn := fRef10Paths, nt := 131, slots := frP N la L.length lc ua U.length uc f t da d.length dc c r ++ [(14, vi k)], todo := pt Try.prog fRef10Paths [1, 1, 1, 1, 1, 1, 0, 1, 0, 0] } m n Q := by
  obtain ⟨hg, e1, e2, e3, e4, e5, e6⟩ := valid_iff hvf
  obtain ⟨hf1, hf2⟩ := e6 f (by simp [-Bool.exists_bool])
  have hbig := hg.big
  have hpos := hg.pos
  have hgN : (mkG N L U).N = N.toNat := rfl
  rw [hgN] at hbig hpos
  have dl := hd.len
  rw [hgN] at dl
  intro j
  induction j with
  | zero =>
    intro k m n C R h pi pw
    obtain rfl : k = N.toNat := by omega
    have hcl := pi.cl
    have hrl := pi.rl
    rw [hgN] at hcl hrl
    have hdone := pi.don f.toNat (gb_all (by rw [pi.cnt, hrl]) (by omega))
    refine W_of mixed (cfg := xcfg) (fuel := 400) ?_
    simp only [frP, List.cons_append, List.nil_append]
    rw [xRef10Pathsk0]
    refine condDF (by omega) ?_
    have := ldx (pw.sc N.toNat) (x := f) (by omega) (by omega) (K := fun x3 => Q (vi x3) m n) (by rw [hdone.2]; exact hq m n pw.le)
    rw [show ((C.length : Nat) : Int) = ((N.toNat : Nat) : Int) by omega] at this
    exact this
  | succ j ih =>
    intro k m n C R h pi pw
    have hcl := pi.cl
    have hrl := pi.rl
    rw [hgN] at hcl hrl
    refine W_of mixed (cfg := xcfg) (fuel := 400) ?_
    simp only [frP, List.cons_append, List.nil_append]
    rw [xRef10Pathsk0]
    refine condDT (by omega) ?_
    have pick := rpick (m0 := m0) (n0 := n0) (c := c) (r := r) (f := f) (t := t) (k := (k : Int)) (da := da) (dc := dc) (L := L) (U := U) (la := la) (ll := L.length) (lc := lc) (ua := ua) (ul := U.length) (uc := uc) hbig (show 1 ≤ N by omega) dl sd (C := C) (R := R) hrl (Q := Q) (m := m) (fun x n1 hl pw1 => ?_) N.toNat 0 (-1) n (by omega) (.inl ⟨rfl, fun q hq => by omega⟩) pw
    · simp only [frP, List.cons_append, List.nil_append] at pick
      exact pick
    refine W_of mixed (cfg := xcfg) (fuel := 400) ?_
    simp only [frP, List.cons_append, List.nil_append]
    rw [xRef10Pathsk1]
    refine condDF (by omega) ?_
    rcases hl with ⟨e, h1⟩ | ⟨w, e, h1, h2, h3, h4⟩
    · -- nothing more is reached
      subst e
      refine condDT (by omega) ?_
      have hval : gd C f.toNat = pathsN (mkG N L U) d t.toNat f.toNat := by
        cases hb : gb R f.toNat with
        | true => exact (pi.don _ hb).2
        | false =>
          have hneg := h1 f.toNat hf2 hb
          have hft : f.toNat ≠ t.toNat := fun e => by rw [e, hd.src] at hneg; omega
          have hnil : nextL (mkG N L U) d f.toNat = [] := by
            cases hc : nextL (mkG N L U) d f.toNat with
            | nil => rfl
            | cons a q => have := (next_ne hg hd hft).1 (by rw [hc]; simp [-Bool.exists_bool]); omega
          rw [pi.und _ (by rw [hgN]; exact hf2) hb, if_neg hft, pathsN_eq hg, if_neg hft, hnil, List.foldl_nil]
      have := ldx (pw1.sc N.toNat) (x := f) (by omega) (by omega) (K := fun x3 => Q (vi x3) m n1) (by rw [hval]; exact hq m n1 pw1.le)
      rw [show ((C.length : Nat) : Int) = ((N.toNat : Nat) : Int) by omega] at this
      exact this
    · subst e
      have hwN : w < N.toNat := h1
      refine condDF (by omega) ?_
      obtain ⟨m2, lv, st, pw2⟩ := pw1.putR (x := (w : Int)) (by omega) (by omega) true
      rw [show ((w : Int).toNat) = w by omega] at pw2
      obtain ⟨m3, n3, a3, l, hl3, ow3, le3, fs3, run3⟩ := rnext_c (N := N) (f := (w : Int)) (t := t) rfl rfl (hL.le pw2.le) (hU.le pw2.le)
      have hl : l = nextL (mkG N L U) d w := by
        unfold NextR at hl3
        rw [if_pos (by rw [valid_two, valid_at hvf hwN, hvt]; rfl)] at hl3
        obtain ⟨d', hd', rfl⟩ := hl3
        rw [hd'.uniq hg hd]; rfl
      subst hl
      have pw3 := pw2.ext le3 fs3
      have l3 := le3.le
      have hcb : 0 ≤ gd C w ∧ gd C w ≤ 1073741824 := by rw [pi.und w h1 h2]; split <;> omega
      have hnx : ∀ x ∈ nextL (mkG N L U) d w, ∃ (i v : Nat) (c : Int), x = (i : Int) ∧ St (mkG N L U) i w v c ∧ otherAt (mkG N L U) x w = v ∧ v < N.toNat ∧ gd C v = pathsN (mkG N L U) d t.toNat v ∧ v ≠ w := fun x hx => by
        obtain ⟨i, v, c, r1, r2, r3, r4, r5, r6⟩ := pi.next_done hg (fun q hq => h4 q hq) hx
        exact ⟨i, v, c, r1, r2, r3, r4, (pi.don v r5).2, r6⟩
      have hself : C = C.set w (gd C w) := by
        apply List.ext_getElem (by simp [-Bool.exists_bool])
        intro q q1 q2
        rw [List.getElem_set]
        split
        · rename_i e; subst e; exact gd_get q1
        · rfl
      obtain ⟨m4, n4, pw4, run4⟩ := rsum (m0 := m0) (n0 := n0) (c := c) (r := r) (f := f) (t := t) (da := da) (dc := dc) (U := U) (ua := ua) (uc := uc) hg e4 hL (R := R.set w true) hwN (pa := a3) (pc := (nextL (mkG N L U) d w).length) (k : Int) (C0 := C) hnx (nextL (mkG N L U) d w) [] (gd C w) m3 n3 C rfl hcb.1 hcb.2 hcl hself hcl pw3 ow3.sl (fun o s e => by have := (ow3.bnd e).1; have := pw2.lt; omega)
      have nxt := ih (k + 1) m4 n4 _ _ (by omega) (pi.step hg hd h1 h2 h3 (fun q hq => h4 q hq)) pw4
      rw [← wrapN (k := k) (by omega)] at nxt
      have fin := run4 Q nxt
      simp only [frP, List.cons_append, List.nil_append] at fin
      exact ⟨⟨by omega, by omega, lv, fun h => (h rfl).elim⟩, m2, st, run3 _ ⟨_, _, _, rfl, Later.mk fin⟩⟩
theorem rpaths_c {f t : Int} (hll : L.length = ll) (hul : U.length = ul) (hL : Sl m n la lc (L.flatMap encL)) (hU : Sl m n ua uc (U.map Value.bool)) {Q : Value → Mem → Nat → Prop} (hq : ∀ x m' n', PathsR N L U f t x → Le m n m' n' → Q (vi x) m' n') :
    Wc Try.prog fRef10Paths [vi N, .slice la ll lc, .slice ua ul uc, vi f, vi t] m n Q := by
  subst hll; subst hul
  refine Wc_of mixed (cfg := xcfg) (fuel := 400) ?_
  rw [xRef10Paths]
  refine rvalid_c rfl hL ⟨_, rfl, Later.mk ?_⟩
  cases hvf : validP N L U.length [f] with
  | false => exact condT rfl (hq 0 m n (by unfold PathsR; rw [if_neg (by rw [valid_two, hvf]; simp [-Bool.exists_bool])]) Le.refl)
  | true =>
  refine condF rfl (rvalid_c rfl hL ⟨_, rfl, Later.mk ?_⟩)
  cases hvt : validP N L U.length [t] with
  | false => exact condT rfl (hq 0 m n (by unfold PathsR; rw [if_neg (by rw [valid_two, hvt]; simp [-Bool.exists_bool])]) Le.refl)
  | true =>
  obtain ⟨hg, e1, e2, e3, e4, e5, e6⟩ := valid_iff hvt
  obtain ⟨ht1, ht2⟩ := e6 t (by simp [-Bool.exists_bool])
  have hbig := hg.big
  have hgN : (mkG N L U).N = N.toNat := rfl
  rw [hgN] at hbig
  obtain ⟨m1, n1, a1, d, hd, ow1, le1, fs1, run1⟩ := rdist_c (N := N) (f := t) rfl rfl hL hU
  have hd : IsDist (mkG N L U) t.toNat d := by unfold DistR at hd; rw [if_pos hvt] at hd; exact hd
  refine condF rfl (run1 _ ⟨_, _, _, rfl, Later.mk ⟨⟨by omega, by omega, by omega⟩, memLet.mk fun m2 e => ?_⟩⟩)
  have hz : (List.replicate N.toNat [Value.int .i64 0]).flatten = (List.replicate N.toNat (0 : Int)).map vi := by simp [-Bool.exists_bool]
  rw [hz] at e
  have g2 : m2.get n1 = some (.cells none tInt 1 ((List.replicate N.toNat (0 : Int)).map vi)) := by rw [e]; simp [-Bool.exists_bool, Tr.get_set]
  have st := store_of (off := t.toNat) (vs := [vi 1]) g2 (by simp; omega) (by simp [-Bool.exists_bool, cellOk])
  simp only [List.length_singleton] at st
  rw [map_take_drop_set vi (List.replicate N.toNat 0) t.toNat 1 (by simp; omega)] at st
  generalize hm3 : m2.set n1 (.cells none tInt 1 (((List.replicate N.toNat (0 : Int)).set t.toNat 1).map vi)) = m3 at st
  refine ⟨⟨by omega, by omega, by simp [-Bool.exists_bool, liveAt, g2], fun h => (h rfl).elim⟩, m3, by simpa [-Bool.exists_bool] using st, ⟨by omega, by omega, by omega⟩, memLet.mk fun m4 e4' => ?_⟩
  have hfl : (List.replicate N.toNat [Value.bool false]).flatten = (List.replicate N.toNat false).map Value.bool := by simp [-Bool.exists_bool]
  rw [hfl] at e4'
  have l1 := le1.le
  have pw : PW m1 n1 m4 (n1 + 1 + 1) n1 (n1 + 1) ((List.replicate N.toNat (0 : Int)).set t.toNat 1) (List.replicate N.toNat false) := by
    refine ⟨by rw [e4', Tr.get_set, if_neg (by omega), ← hm3]; simp [-Bool.exists_bool, Tr.get_set], by rw [e4']; simp [-Bool.exists_bool, Tr.get_set], ⟨by omega, fun i hi => by rw [e4', Tr.get_set, if_neg (by omega), ← hm3, Tr.get_set, if_neg (by omega), e, Tr.get_set, if_neg (by omega)]⟩, fun hf i hi => by
      rw [e4', Tr.get_set, if_neg (by omega), ← hm3, Tr.get_set, if_neg (by omega), e, Tr.get_set, if_neg (by omega)]; exact hf i (by omega), ⟨by omega, by omega⟩, ⟨by omega, by omega⟩, by omega⟩
  have nob : ∀ v, gb (List.replicate N.toNat false) v = false := fun v => by
    unfold gb
    rw [List.getElem?_replicate]
    split <;> rfl
  have pi0 : PI (mkG N L U) d t.toNat 0 ((List.replicate N.toNat (0 : Int)).set t.toNat 1) (List.replicate N.toNat false) := by
    refine ⟨by simp [-Bool.exists_bool, hgN], by simp [-Bool.exists_bool, hgN], by simp [-Bool.exists_bool, List.countP_replicate], (fun v hv => by rw [nob] at hv; cases hv), fun v hvN _ => ?_, (fun u v hu => by rw [nob] at hu; cases hu)⟩
    rw [gd_set (by simp; omega)]
    split
    · rfl
    · unfold gd; rw [List.getElem?_replicate, if_pos (by rw [hgN] at hvN; exact hvN)]; rfl
  have key := rpaths_loop (m0 := m1) (n0 := n1) (c := n1) (r := n1 + 1) (da := a1) (dc := d.length) hvf hvt (hL.le le1) (hU.le le1) hd ow1.sl (Q := Q) (fun m' n' hle => hq _ m' n' (by unfold PathsR; rw [if_pos (by rw [valid_two, hvf, hvt]; rfl)]; exact ⟨d, hd, rfl⟩) (le1.trans hle)) N.toNat 0 m4 (n1 + 1 + 1) _ _ (by omega) pi0 pw
  exact key

theorem dist_law {f t : Int} (hL : Sl m n la lc (L.flatMap encL)) (hU : Sl m n ua uc (U.map Value.bool)) {Q : Value → Mem → Nat → Prop} (hq : ∀ m' n', Q (.bool true) m' n') :
    Wc Try.prog fLaw10SpfDist [vi N, .slice la L.length lc, .slice ua U.length uc, vi f, vi t] m n Q := by
  refine Wc_of mixed (cfg := xcfg) (fuel := 400) ?_
  rw [xLaw10SpfDist]
  refine condD (fun _ => awake_c ⟨_, rfl, Later.mk (hq _ _)⟩) fun h1 => condD (fun _ => awake_c ⟨_, rfl, Later.mk (hq _ _)⟩) fun h2 => ?_
  obtain ⟨m1, n1, pl, ow1, le1, _, run1⟩ := ownl_c rfl hL (by omega)
  have hL1 := hL.le le1
  have hU1 := hU.le le1
  obtain ⟨m2, n2, pu, ow2, le2, _, run2⟩ := ownb_c rfl hU1 (by omega)
  have hL2 := hL1.le le2
  have hU2 := hU1.le le2
  have pL2 := (ow1.le le2).sl
  have pU2 := ow2.sl
  obtain ⟨m3, n3, a3, D3, r3, ow3, le3, _, run3⟩ := dist_c (N := N) (f := f) rfl rfl pL2 pU2
  obtain ⟨m4, n4, a4, D4, r4, ow4, le4, _, run4⟩ := rdist_c (N := N) (f := f) rfl rfl (hL2.le le3) (hU2.le le3)
  obtain rfl := r3.uniq r4
  have le34 := le3.trans le4
  obtain ⟨m5, n5, a5, D5, r5, ow5, le5, _, run5⟩ := parents_c (N := N) (f := f) rfl rfl (pL2.le le34) (pU2.le le34)
  have le35 := le34.trans le5
  obtain ⟨m6, n6, a6, D6, r6, ow6, le6, _, run6⟩ := rparents_c (N := N) (f := f) rfl rfl (hL2.le le35) (hU2.le le35)
  obtain rfl := r5.uniq r6
  have le36 := le35.trans le6
  obtain ⟨m7, n7, a7, D7, r7, ow7, le7, _, run7⟩ := path_c (N := N) (f := f) (t := t) rfl rfl (pL2.le le36) (pU2.le le36)
  have le37 := le36.trans le7
  obtain ⟨m8, n8, a8, D8, r8, ow8, le8, _, run8⟩ := rpath_c (N := N) (f := f) (t := t) rfl rfl (hL2.le le37) (hU2.le le37)
  obtain rfl := r7.uniq r8
  have le38 := le37.trans le8
  have bnd : ∀ {mm : Mem} {nn n0 : Nat} {a : Option Addr} {D : List Int}, DistR N L U f D → D.length ≤ 9223372036854775807 := fun {_ _ _ _ D} h => by
    unfold DistR at h
    split at h
    · rename_i hv; have := (valid_iff hv).1.big; rw [h.len]; omega
    · rw [h]; simp [-Bool.exists_bool]
  have b5 : D5.length ≤ 9223372036854775807 := by
    unfold ParR at r5
    split at r5
    · rename_i hv; obtain ⟨d, _, rfl⟩ := r5; have := (valid_iff hv).1.big; simp [-Bool.exists_bool, parentsL]; omega
    · rw [r5]; simp [-Bool.exists_bool]
  have b7 : D7.length ≤ 9223372036854775807 := by
    unfold PathR at r7
    split at r7
    · rename_i hv; obtain ⟨d, l, hd, hb, rfl⟩ := r7; have h3 := hb.len (valid_iff hv).1; have h4 := hd.val t.toNat; rw [List.length_reverse]; omega
    · rw [r7]; simp [-Bool.exists_bool]
  have b3 : D3.length ≤ 9223372036854775807 := by
    unfold DistR at r3
    split at r3
    · rename_i hv; have := (valid_iff hv).1.big; rw [r3.len]; omega
    · rw [r3]; simp [-Bool.exists_bool]
  refine run1 _ ⟨_, _, _, rfl, Later.mk (run2 _ ⟨_, _, _, rfl, Later.mk (run3 _ ⟨_, _, _, rfl, Later.mk (run4 _ ⟨_, _, _, rfl, Later.mk (same_c rfl rfl (ow3.sl.le le4) ow4.sl b3 ⟨_, rfl, Later.mk ?_⟩)⟩)⟩)⟩)⟩
  rw [decide_eq_true rfl]
  refine condT rfl (run5 _ ⟨_, _, _, rfl, Later.mk (run6 _ ⟨_, _, _, rfl, Later.mk (same_c rfl rfl (ow5.sl.le le6) ow6.sl b5 ⟨_, rfl, Later.mk ?_⟩)⟩)⟩)
  rw [decide_eq_true rfl]
  refine condT rfl (run7 _ ⟨_, _, _, rfl, Later.mk (run8 _ ⟨_, _, _, rfl, Later.mk (same_c rfl rfl (ow7.sl.le le8) ow8.sl b7 ⟨_, rfl, Later.mk ?_⟩)⟩)⟩)
  rw [decide_eq_true rfl]
  refine condT rfl (samel_c rfl rfl (pL2.le le38) (hL2.le le38) (by omega) ⟨_, rfl, Later.mk (condT rfl (sameb_c rfl rfl (pU2.le le38) (hU2.le le38) (by omega) ⟨_, rfl, Later.mk ?_⟩))⟩)
  rw [decide_eq_true rfl]
  exact condT rfl (awake_c ⟨_, rfl, Later.mk (hq _ _)⟩)
theorem next_law {f t : Int} (hL : Sl m n la lc (L.flatMap encL)) (hU : Sl m n ua uc (U.map Value.bool)) {Q : Value → Mem → Nat → Prop} (hq : ∀ m' n', Q (.bool true) m' n') :
    Wc Try.prog fLaw10SpfNext [vi N, .slice la L.length lc, .slice ua U.length uc, vi f, vi t] m n Q := by
  refine Wc_of mixed (cfg := xcfg) (fuel := 400) ?_
  rw [xLaw10SpfNext]
  refine condD (fun _ => awake_c ⟨_, rfl, Later.mk (hq _ _)⟩) fun h1 => condD (fun _ => awake_c ⟨_, rfl, Later.mk (hq _ _)⟩) fun h2 => ?_
  obtain ⟨m1, n1, pl, ow1, le1, _, run1⟩ := ownl_c rfl hL (by omega)
  have hL1 := hL.le le1
  have hU1 := hU.le le1
  obtain ⟨m2, n2, pu, ow2, le2, _, run2⟩ := ownb_c rfl hU1 (by omega)
  have hL2 := hL1.le le2
  have hU2 := hU1.le le2
  have pL2 := (ow1.le le2).sl
  have pU2 := ow2.sl
  obtain ⟨m3, n3, a3, D3, r3, ow3, le3, _, run3⟩ := next_c (N := N) (f := f) (t := t) rfl rfl pL2 pU2
  obtain ⟨m4, n4, a4, D4, r4, ow4, le4, _, run4⟩ := rnext_c (N := N) (f := f) (t := t) rfl rfl (hL2.le le3) (hU2.le le3)
  obtain rfl := r3.uniq r4
  have le34 := le3.trans le4
  obtain ⟨m5, n5, x5, r5, le5, _, run5⟩ := paths_c (N := N) (f := f) (t := t) rfl rfl (pL2.le le34) (pU2.le le34)
  have le35 := le34.trans le5
  have b3 : D3.length ≤ 9223372036854775807 := by
    unfold NextR at r3
    split at r3
    · rename_i hv; obtain ⟨d, hd, rfl⟩ := r3; have := next_len (valid_iff hv).1 (d := d) (v := f.toNat); omega
    · rw [r3]; simp [-Bool.exists_bool]
  refine run1 _ ⟨_, _, _, rfl, Later.mk (run2 _ ⟨_, _, _, rfl, Later.mk (run3 _ ⟨_, _, _, rfl, Later.mk (run4 _ ⟨_, _, _, rfl, Later.mk (same_c rfl rfl (ow3.sl.le le4) ow4.sl b3 ⟨_, rfl, Later.mk ?_⟩)⟩)⟩)⟩)⟩
  rw [decide_eq_true rfl]
  refine condT rfl (run5 _ ⟨_, rfl, Later.mk (rpaths_c rfl rfl (hL2.le le35) (hU2.le le35) fun x m6 n6 r6 le6 => ⟨_, rfl, Later.mk ?_⟩)⟩)
  obtain rfl := r5.uniq r6
  have le36 := le35.trans le6
  refine condET rfl (samel_c rfl rfl (pL2.le le36) (hL2.le le36) (by omega) ⟨_, rfl, Later.mk (condT rfl (sameb_c rfl rfl (pU2.le le36) (hU2.le le36) (by omega) ⟨_, rfl, Later.mk ?_⟩))⟩)
  rw [decide_eq_true rfl]
  exact condT rfl (awake_c ⟨_, rfl, Later.mk (hq _ _)⟩)
theorem larg {v : Value} {m : Mem} {n : Nat} (hf : ∀ i, n ≤ i → m.get i = none) (h : TyV Try.prog m tLapiLink v) : ∃ la L lc, v = .slice la (L : List Lk).length lc ∧ Sl m n la lc (L.flatMap encL) := by
  obtain ⟨id, len, cap, nl, es, f, rfl, h1, h2, h3, h4, h5, h6⟩ := TyV.slice undLlink h
  obtain ⟨L, e1, e2⟩ := rows_enc (enc := encL) (es := es) fun x hx => link_of (h6 x hx).2
  rw [e1] at h4
  obtain rfl : len = L.length := by omega
  exact ⟨_, L, cap, rfl, Sl.in_ h4 (lt_of_get hf h4) fun e => by rw [← e1, h5 e]; rfl⟩
theorem barg {v : Value} {m : Mem} {n : Nat} (hf : ∀ i, n ≤ i → m.get i = none) (h : TyV Try.prog m tLbool v) : ∃ ua U uc, v = .slice ua (U : List Bool).length uc ∧ Sl m n ua uc (U.map Value.bool) := by
  obtain ⟨id, len, cap, nl, es, f, rfl, h1, h2, h3, h4, h5, h6⟩ := TyV.slice undLbool h
  obtain ⟨U, e1, e2⟩ := rows_one (f := Value.bool) (es := es) fun x hx => TyC.bool undBool (h6 x hx).2
  rw [e1] at h4
  obtain rfl : len = U.length := by omega
  exact ⟨_, U, cap, rfl, Sl.in_ h4 (lt_of_get hf h4) fun e => by rw [← e1, h5 e]; rfl⟩
end
end Go.Proofs.Ytenpbdanffacjaa

namespace Go.Proofs.Ytenpbdanffacjaa
open Go Go.Ab Spf
set_option maxRecDepth 1000000 in
theorem spfDist_main (m : Mem) (n : Nat) (ars : List Value) (hl : ars.length = ([3, 22, 23, 3, 3] : List TypeId).length) (ht : ∀ (j : Nat) t a, ([3, 22, 23, 3, 3] : List TypeId)[j]? = some t → ars[j]? = some a → TyV Try.prog m t a)
    (_ : ∀ i o, m.get i = some o → own o = false) (hfresh : ∀ i, n ≤ i → m.get i = none) : Wc Try.prog fLaw10SpfDist ars m n fun v _ _ => v = .bool true := by
  match ars, hl with
  | [x, a, b, c, d], _ =>
    obtain ⟨N, rfl, _⟩ := TyV.int undInt (ht 0 3 x (by simp [-Bool.exists_bool]) (by simp [-Bool.exists_bool]))
    obtain ⟨la, L, lc, rfl, h1⟩ := larg hfresh (ht 1 22 a (by simp [-Bool.exists_bool]) (by simp [-Bool.exists_bool]))
    obtain ⟨ua, U, uc, rfl, h2⟩ := barg hfresh (ht 2 23 b (by simp [-Bool.exists_bool]) (by simp [-Bool.exists_bool]))
    obtain ⟨c, rfl, _⟩ := TyV.int undInt (ht 3 3 c (by simp [-Bool.exists_bool]) (by simp [-Bool.exists_bool]))
    obtain ⟨d, rfl, _⟩ := TyV.int undInt (ht 4 3 d (by simp [-Bool.exists_bool]) (by simp [-Bool.exists_bool]))
    exact dist_law h1 h2 fun _ _ => rfl
end Go.Proofs.Ytenpbdanffacjaa
