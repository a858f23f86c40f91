/- WFibNone: what parts of the program compute; helper of the claim. -/
import Derived.Test.YtiomjekkmjinbaaWC
set_option maxRecDepth 100000
namespace Go.Proofs.Ytiomjekkmjinbaa
open Go Go.Ab Spf
section
variable {m m' m0 : Mem} {n n' n0 : Nat} {q : Option Addr} {p : Nat → Int} {y : Int}
/-- A table that is not valid. -/
def BadF (m : Mem) (n : Nat) (q : Option Addr) : Prop := q = none ∨ ∃ z, q = some ⟨z, 0, none⟩ ∧ z < n ∧ m.get z = some (.cells none tFibFib 1 [.pointer none])
theorem BadF.le (h : BadF m n q) (k : Le m n m' n') : BadF m' n' q := by
  rcases h with h | ⟨z, h, h1, h2⟩
  · exact .inl h
  · exact .inr ⟨z, h, by have := k.le; omega, (k.same z h1).trans h2⟩
theorem bvalid_c {z k : Nat} (h2 : m.get z = some (.cells none tFibFib 1 [.pointer none])) {Q : Value → Mem → Nat → Prop} (hq : Q (.bool false) m k) : Wc Try.prog fFibFibvalid [pp z] m k Q := by
  refine Wc_of mixed (cfg := xcfg) (fuel := 400) ?_
  rw [xFibFibvalid]
  exact ⟨isC_of h2, _, rd_of h2 rfl, hq⟩
set_option maxRecDepth 1000000 in
theorem nfwd (p : Nat → Int) : Sp11.valsR (callK Try.prog (fun _ => none) 1000000000 fFibFibForward [.pointer none, .agg ⟨pktF p⟩] .leaf 0) = some [.tuple ⟨[vi 0, .agg ⟨pktF zeroP⟩, vi 1]⟩] := by kernel_rfl
theorem nupd : Sp11.valsR (callK Try.prog (fun _ => none) 1000000000 fFibFibUpdate [.pointer none, .slice none 0 0] .leaf 0) = some [vi 1] := by kernel_rfl
theorem nlook (y : Int) : Sp11.valsR (callK Try.prog (fun _ => none) 1000000000 fFibFibLookup [.pointer none, .int .u32 y] .leaf 0) = some [.slice none 0 0] := by kernel_rfl
theorem nent : Sp11.valsR (callK Try.prog (fun _ => none) 1000000000 fFibFibEntries [.pointer none] .leaf 0) = some [.slice none 0 0] := by kernel_rfl
theorem nreach : Sp11.valsR (callK Try.prog (fun _ => none) 1000000000 fFibFibReach [.pointer none] .leaf 0) = some [.slice none 0 0] := by kernel_rfl
theorem ncopy : Sp11.valsR (callK Try.prog (fun _ => none) 1000000000 fFibFibCopy [.pointer none] .leaf 0) = some [.pointer none] := by kernel_rfl
theorem bfwd (h : BadF m n q) {Q : Value → Mem → Nat → Prop} (hq : ∀ m' n', Le m n m' n' → Q (.tuple ⟨[vi 0, .agg ⟨pktF zeroP⟩, vi 1]⟩) m' n') : Wc Try.prog fFibFibForward [.pointer q, .agg ⟨pktF p⟩] m n Q := by
  rcases h with rfl | ⟨z, rfl, h1, h2⟩
  · exact Sp11.Wc.valued rfl rfl (nfwd p) (hq _ _ Le.refl)
  · refine Wc_of mixed (cfg := xcfg) (fuel := 400) ?_
    unfold pktF
    rw [xFibFibForward]
    refine memLet.mk fun m1 e1 => memLet.mk fun m2 e2 => memLet.mk fun m3 e3 => ?_
    have le3 : Le m n m3 (n + 1 + 1 + 1) := ⟨by omega, fun i hi => by rw [e3, Tr.get_set, if_neg (by omega), e2, Tr.get_set, if_neg (by omega), e1, Tr.get_set, if_neg (by omega)]⟩
    have g0 : m3.get n = some (.cells none tPfibFib 1 [pp z]) := by rw [e3, Tr.get_set, if_neg (by omega), e2, Tr.get_set, if_neg (by omega), e1]; simp [-Bool.exists_bool, Tr.get_set]
    have g2 : m3.get (n + 1 + 1) = some (.cells none tApiPacket 21 (pktF zeroP)) := by rw [e3]; simp [-Bool.exists_bool, Tr.get_set]; rfl
    obtain ⟨m4, e4, g4, k4⟩ := storeN (off := 0) (vs := pktF zeroP) g2 (by simp [-Bool.exists_bool, pkt_len]) zero_all
    have g4 : m4.get (n + 1 + 1) = some (.cells none tApiPacket 21 (pktF zeroP)) := by rw [g4]; rfl
    exact ⟨_, rd_of g0 rfl, bvalid_c ((le3.same z h1).trans h2) ⟨_, rfl, Later.mk (condT rfl ⟨m4, e4, _, _, _, _, _, _, _, _, _, _, _, _, _, _, _, _, _, _, _, _, _, rds_of g4, hq _ _ ⟨by omega, fun i hi => by rw [k4 i (by omega)]; exact le3.same i hi⟩⟩)⟩⟩
theorem bupd (h : BadF m n q) {Q : Value → Mem → Nat → Prop} (hq : Q (vi 1) m n) : Wc Try.prog fFibFibUpdate [.pointer q, .slice none 0 0] m n Q := by
  rcases h with rfl | ⟨z, rfl, h1, h2⟩
  · exact Sp11.Wc.valued rfl rfl nupd hq
  · refine Wc_of mixed (cfg := xcfg) (fuel := 400) ?_
    rw [xFibFibUpdate]
    exact bvalid_c h2 ⟨_, rfl, Later.mk (condT rfl hq)⟩
theorem blook (h : BadF m n q) {Q : Value → Mem → Nat → Prop} (hq : Q (.slice none 0 0) m n) : Wc Try.prog fFibFibLookup [.pointer q, .int .u32 y] m n Q := by
  rcases h with rfl | ⟨z, rfl, h1, h2⟩
  · exact Sp11.Wc.valued rfl rfl (nlook y) hq
  · refine Wc_of mixed (cfg := xcfg) (fuel := 400) ?_
    rw [xFibFibLookup]
    exact bvalid_c h2 ⟨_, rfl, Later.mk (condT rfl hq)⟩
theorem bent (h : BadF m n q) {Q : Value → Mem → Nat → Prop} (hq : Q (.slice none 0 0) m n) : Wc Try.prog fFibFibEntries [.pointer q] m n Q := by
  rcases h with rfl | ⟨z, rfl, h1, h2⟩
  · exact Sp11.Wc.valued rfl rfl nent hq
  · refine Wc_of mixed (cfg := xcfg) (fuel := 400) ?_
    rw [xFibFibEntries]
    exact bvalid_c h2 ⟨_, rfl, Later.mk (condT rfl hq)⟩
theorem breach (h : BadF m n q) {Q : Value → Mem → Nat → Prop} (hq : Q (.slice none 0 0) m n) : Wc Try.prog fFibFibReach [.pointer q] m n Q := by
  rcases h with rfl | ⟨z, rfl, h1, h2⟩
  · exact Sp11.Wc.valued rfl rfl nreach hq
  · refine Wc_of mixed (cfg := xcfg) (fuel := 400) ?_
    rw [xFibFibReach]
    exact bvalid_c h2 ⟨_, rfl, Later.mk (condT rfl hq)⟩
theorem bcopy (h : BadF m n q) {Q : Value → Mem → Nat → Prop} (hq : Q (.pointer none) m n) : Wc Try.prog fFibFibCopy [.pointer q] m n Q := by
  rcases h with rfl | ⟨z, rfl, h1, h2⟩
  · exact Sp11.Wc.valued rfl rfl ncopy hq
  · refine Wc_of mixed (cfg := xcfg) (fuel := 400) ?_
    rw [xFibFibCopy]
    exact bvalid_c h2 ⟨_, rfl, Later.mk (condT rfl hq)⟩
theorem none_step {pb lb i : Nat} (hi : i < 2) (gp : m.get pb = some (.cells none tApiPacket 21 (pktF p))) (lp : pb < n) (gl : m.get lb = some (.cells none tPfibFib 1 [.pointer none, .pointer q])) (ll : lb < n) (hb : BadF m n q)
    {Q : Value → Mem → Nat → Prop} (hq : ∀ m' n', Le m n m' n' → W Try.prog { fn := fLaw14FibNone, nt := 70, slots := [(1, pp pb), (3, .slice (some ⟨lb, 0, none⟩) 2 2), (4, vi ((i + 1 : Nat) : Int))], todo := pt Try.prog fLaw14FibNone [1, 1, 0, 1, 0, 0] } m' n' Q) :
    W Try.prog { fn := fLaw14FibNone, nt := 70, slots := [(1, pp pb), (3, .slice (some ⟨lb, 0, none⟩) 2 2), (4, vi i)], todo := pt Try.prog fLaw14FibNone [1, 1, 0, 1, 0, 0] } m n Q := by
  obtain ⟨q', hq', hbad⟩ : ∃ q', ([.pointer none, .pointer q] : List Value)[i]? = some (.pointer q') ∧ BadF m n q' := by
    rcases (show i = 0 ∨ i = 1 by omega) with rfl | rfl
    · exact ⟨none, rfl, .inl rfl⟩
    · exact ⟨q, rfl, hb⟩
  refine W_of mixed (cfg := xcfg) (fuel := 400) ?_
  rw [xLaw14FibNonek0, wrapN (by omega)]
  refine condDT (by omega) ⟨⟨by omega, by omega, by simp [-Bool.exists_bool, liveAt, gl], fun h => (h rfl).elim⟩, q', rd_of gl (by simpa [-Bool.exists_bool, offOf] using hq'), _, _, _, _, _, _, _, _, _, _, _, _, _, _, _, _, _, _, _, _, _, rds_of gp, bfwd hbad fun m1 n1 le1 => ⟨_, _, _, _, _, _, _, _, _, _, _, _, _, _, _, _, _, _, _, _, _, _, _, rfl, Later.mk (memLet.mk fun m2 e2 => ?_)⟩⟩
  obtain ⟨m3, e3, g3, k3⟩ := storeN (m := m2) (b := n1) (T := tApiPacket) (sz := 21) (cs := pktF zeroP) (off := 0) (vs := pktF zeroP) (by rw [e2]; simp [-Bool.exists_bool, Tr.get_set]; rfl) (by simp [-Bool.exists_bool, pkt_len]) zero_all
  have g3 : m3.get n1 = some (.cells none tApiPacket 21 (pktF zeroP)) := by rw [g3]; rfl
  have le3 : Le m1 n1 m3 (n1 + 1) := ⟨by omega, fun i hi => by rw [k3 i (by omega), e2, Tr.get_set, if_neg (by omega)]⟩
  have b3 := (hbad.le le1).le le3
  have gp3 := (le3.same pb (by have := le1.le; omega)).trans ((le1.same pb lp).trans gp)
  exact ⟨m3, e3, bupd b3 ⟨_, rfl, Later.mk (condNF rfl (condNF rfl (condNF rfl ⟨_, _, _, _, _, _, _, _, _, _, _, _, _, _, _, _, _, _, _, _, _, rds_of g3, condF (by rfl) ⟨isC_of gp3, _, rd_of gp3 rfl, blook b3 ⟨_, _, _, rfl, Later.mk (condNF rfl (bent b3 ⟨_, _, _, rfl, Later.mk (condNF rfl (breach b3 ⟨_, _, _, rfl, Later.mk (condNF rfl (bcopy b3 ⟨_, rfl, Later.mk (bupd (.inl rfl) ⟨_, rfl, Later.mk (condNF rfl (hq _ _ (le1.trans le3)))⟩)⟩))⟩))⟩))⟩⟩⟩)))⟩⟩
theorem none_law {Q : Value → Mem → Nat → Prop} (hq : ∀ m' n', Q (.bool true) m' n') : Wc Try.prog fLaw14FibNone [.agg ⟨pktF p⟩] m n Q := by
  refine Wc_of mixed (cfg := xcfg) (fuel := 400) ?_
  unfold pktF
  rw [xLaw14FibNone]
  refine memLet.mk fun m1 e1 => memLet.mk fun m2 e2 => memLet.mk fun m3 e3 => ?_
  have gp : m3.get n = some (.cells none tApiPacket 21 (pktF p)) := by rw [e3, Tr.get_set, if_neg (by omega), e2, Tr.get_set, if_neg (by omega), e1]; simp [-Bool.exists_bool, Tr.get_set]; rfl
  have gf : m3.get (n + 1) = some (.cells none tFibFib 1 [.pointer none]) := by rw [e3, Tr.get_set, if_neg (by omega), e2]; simp [-Bool.exists_bool, Tr.get_set]
  have gl : m3.get (n + 1 + 1) = some (.cells none tPfibFib 1 [.pointer none, .pointer (some ⟨n + 1, 0, none⟩)]) := by rw [e3]; simp [-Bool.exists_bool, Tr.get_set]
  have hb : BadF m3 (n + 1 + 1 + 1) (some ⟨n + 1, 0, none⟩) := .inr ⟨n + 1, rfl, by omega, gf⟩
  refine none_step (i := 0) (by omega) gp (by omega) gl (by omega) hb fun m4 n4 le4 => ?_
  refine none_step (i := 1) (by omega) ((le4.same _ (by omega)).trans gp) (by have := le4.le; omega) ((le4.same _ (by omega)).trans gl) (by have := le4.le; omega) (hb.le le4) fun m5 n5 le5 => ?_
  refine W_of mixed (cfg := xcfg) (fuel := 400) ?_
  rw [xLaw14FibNonek0]
  exact condDF (by omega) (awake_c ⟨_, rfl, Later.mk (hq _ _)⟩)
end
end Go.Proofs.Ytiomjekkmjinbaa

set_option maxRecDepth 100000
namespace Go.Proofs.Ytiomjekkmjinbaa
open Go Go.Ab Spf
abbrev frm14 (i0 i1 i2 i3 i4 i5 i6 i7 i8 i9 i10 i11 i12 i13 i14 : Int) : List Value := [.int .u64 i0, .int .u64 i1, .int .i64 i2, .int .i64 i3, .int .u64 i4, .int .u32 i5, .int .u64 i6, .int .u32 i7, .int .u32 i8, .int .u32 i9, .int .i64 i10, .int .i64 i11, .int .i64 i12, .int .i64 i13, .int .u64 i14]
theorem undIP : Try.prog.underlying tApiIP = some (.int .u32) := by kernel_rfl
theorem undMAC : Try.prog.underlying tApiMAC = some (.int .u64) := by kernel_rfl
theorem undU32 : Try.prog.underlying tUint32 = some (.int .u32) := by kernel_rfl
theorem undU64b : Try.prog.underlying tUint64 = some (.int .u64) := by kernel_rfl
theorem fldPkt : fieldTys Try.prog tApiPacket = some [tApiIP, tApiIP, tInt, tInt, tUint32, tUint32, tApiFrame] := by kernel_rfl
theorem fldFrm : fieldTys Try.prog tApiFrame = some [tApiMAC, tApiMAC, tInt, tApiARP, tApiHead, tUint64] := by kernel_rfl
theorem fldArp : fieldTys Try.prog tApiARP = some [tInt, tApiMAC, tApiIP, tApiMAC, tApiIP] := by kernel_rfl
theorem fldHead : fieldTys Try.prog tApiHead = some [tApiIP, tApiIP, tInt, tInt, tInt, tInt] := by kernel_rfl
theorem arp_of {m : Mem} {f : Nat} {cs : List Value} (h : TyC Try.prog m f tApiARP cs) : ∃ a b c d e : Int, cs = [.int .i64 a, .int .u64 b, .int .u32 c, .int .u64 d, .int .u32 e] := by
  obtain ⟨g, parts, rfl, hlen, hp⟩ := TyC.fields fldArp h
  match parts, hlen with
  | [q0, q1, q2, q3, q4], _ =>
    obtain ⟨a, rfl, _⟩ := TyC.int undInt (hp 0 _ q0 rfl rfl)
    obtain ⟨b, rfl, _⟩ := TyC.int undMAC (hp 1 _ q1 rfl rfl)
    obtain ⟨c, rfl, _⟩ := TyC.int undIP (hp 2 _ q2 rfl rfl)
    obtain ⟨d, rfl, _⟩ := TyC.int undMAC (hp 3 _ q3 rfl rfl)
    obtain ⟨e, rfl, _⟩ := TyC.int undIP (hp 4 _ q4 rfl rfl)
    exact ⟨a, b, c, d, e, rfl⟩
theorem head_of {m : Mem} {f : Nat} {cs : List Value} (h : TyC Try.prog m f tApiHead cs) : ∃ a b c d e k : Int, cs = [.int .u32 a, .int .u32 b, .int .i64 c, .int .i64 d, .int .i64 e, .int .i64 k] := by
  obtain ⟨g, parts, rfl, hlen, hp⟩ := TyC.fields fldHead h
  match parts, hlen with
  | [q0, q1, q2, q3, q4, q5], _ =>
    obtain ⟨a, rfl, _⟩ := TyC.int undIP (hp 0 _ q0 rfl rfl)
    obtain ⟨b, rfl, _⟩ := TyC.int undIP (hp 1 _ q1 rfl rfl)
    obtain ⟨c, rfl, _⟩ := TyC.int undInt (hp 2 _ q2 rfl rfl)
    obtain ⟨d, rfl, _⟩ := TyC.int undInt (hp 3 _ q3 rfl rfl)
    obtain ⟨e, rfl, _⟩ := TyC.int undInt (hp 4 _ q4 rfl rfl)
    obtain ⟨k, rfl, _⟩ := TyC.int undInt (hp 5 _ q5 rfl rfl)
    exact ⟨a, b, c, d, e, k, rfl⟩
theorem frm_of {m : Mem} {f : Nat} {cs : List Value} (h : TyC Try.prog m f tApiFrame cs) : ∃ i0 i1 i2 i3 i4 i5 i6 i7 i8 i9 i10 i11 i12 i13 i14 : Int, cs = frm14 i0 i1 i2 i3 i4 i5 i6 i7 i8 i9 i10 i11 i12 i13 i14 := by
  obtain ⟨g, parts, rfl, hlen, hp⟩ := TyC.fields fldFrm h
  match parts, hlen with
  | [q0, q1, q2, q3, q4, q5], _ =>
    obtain ⟨a, rfl, _⟩ := TyC.int undMAC (hp 0 _ q0 rfl rfl)
    obtain ⟨b, rfl, _⟩ := TyC.int undMAC (hp 1 _ q1 rfl rfl)
    obtain ⟨c, rfl, _⟩ := TyC.int undInt (hp 2 _ q2 rfl rfl)
    obtain ⟨a0, a1, a2, a3, a4, rfl⟩ := arp_of (hp 3 _ q3 rfl rfl)
    obtain ⟨h0, h1, h2, h3, h4, h5, rfl⟩ := head_of (hp 4 _ q4 rfl rfl)
    obtain ⟨d, rfl, _⟩ := TyC.int undU64b (hp 5 _ q5 rfl rfl)
    exact ⟨a, b, c, a0, a1, a2, a3, a4, h0, h1, h2, h3, h4, h5, d, rfl⟩
theorem pkt_of {m : Mem} {f : Nat} {cs : List Value} (h : TyC Try.prog m f tApiPacket cs) : ∃ p0 p1 p2 p3 p4 p5 p6 p7 p8 p9 p10 p11 p12 p13 p14 p15 p16 p17 p18 p19 p20 : Int, cs = Sp11.pkt p0 p1 p2 p3 p4 p5 p6 p7 p8 p9 p10 p11 p12 p13 p14 p15 p16 p17 p18 p19 p20 := by
  obtain ⟨g, parts, rfl, hlen, hp⟩ := TyC.fields fldPkt h
  match parts, hlen with
  | [q0, q1, q2, q3, q4, q5, q6], _ =>
    obtain ⟨a, rfl, _⟩ := TyC.int undIP (hp 0 _ q0 rfl rfl)
    obtain ⟨b, rfl, _⟩ := TyC.int undIP (hp 1 _ q1 rfl rfl)
    obtain ⟨c, rfl, _⟩ := TyC.int undInt (hp 2 _ q2 rfl rfl)
    obtain ⟨d, rfl, _⟩ := TyC.int undInt (hp 3 _ q3 rfl rfl)
    obtain ⟨e, rfl, _⟩ := TyC.int undU32 (hp 4 _ q4 rfl rfl)
    obtain ⟨k, rfl, _⟩ := TyC.int undU32 (hp 5 _ q5 rfl rfl)
    obtain ⟨i0, i1, i2, i3, i4, i5, i6, i7, i8, i9, i10, i11, i12, i13, i14, rfl⟩ := frm_of (hp 6 _ q6 rfl rfl)
    exact ⟨a, b, c, d, e, k, i0, i1, i2, i3, i4, i5, i6, i7, i8, i9, i10, i11, i12, i13, i14, rfl⟩
theorem packet_of {m : Mem} {f : Nat} {cs : List Value} (h : TyC Try.prog m f tApiPacket cs) : ∃ p : Nat → Int, cs = pktF p := by
  obtain ⟨p0, p1, p2, p3, p4, p5, p6, p7, p8, p9, p10, p11, p12, p13, p14, p15, p16, p17, p18, p19, p20, rfl⟩ := pkt_of h
  exact ⟨fun i => ([p0, p1, p2, p3, p4, p5, p6, p7, p8, p9, p10, p11, p12, p13, p14, p15, p16, p17, p18, p19, p20] : List Int).getD i 0, rfl⟩
theorem parg {v : Value} {m : Mem} (h : TyV Try.prog m tApiPacket v) : ∃ p : Nat → Int, v = .agg ⟨pktF p⟩ := by
  obtain ⟨f, cs, rfl, h1⟩ := TyV.st fldPkt h
  obtain ⟨p, rfl⟩ := packet_of h1
  exact ⟨p, rfl⟩
end Go.Proofs.Ytiomjekkmjinbaa

namespace Go.Proofs.Ytiomjekkmjinbaa
open Go Go.Ab Spf
set_option maxRecDepth 1000000 in
theorem fibNone_main (m : Mem) (n : Nat) (ars : List Value) (hl : ars.length = ([56] : List TypeId).length) (ht : ∀ (j : Nat) t a, ([56] : List TypeId)[j]? = some t → ars[j]? = some a → TyV Try.prog m t a)
    (_ : ∀ i o, m.get i = some o → own o = false) (_ : ∀ i, n ≤ i → m.get i = none) : Wc Try.prog fLaw14FibNone ars m n fun v _ _ => v = .bool true := by
  match ars, hl with
  | [x], _ =>
    obtain ⟨p, rfl⟩ := parg (ht 0 56 x (by simp [-Bool.exists_bool]) (by simp [-Bool.exists_bool]))
    exact none_law fun _ _ => rfl
end Go.Proofs.Ytiomjekkmjinbaa
