/- WFibKnown: what parts of the program compute; helper of the claim. -/
import Derived.Test.YtiomjekkmjinbaaWC
set_option maxRecDepth 100000
namespace Go.Proofs.Ytiomjekkmjinbaa
open Go Go.Ab Spf
section
variable {m m' m0 : Mem} {n n' n0 fb s mp k b : Nat} {N me y : Int} {L : List Lk} {rows : List ERow} {ws : List WR} {p : Nat → Int}
abbrev vu (x : Int) : Value := .int .u32 x
theorem ipOk : elemOk Try.prog tLapiIP tApiIP 1 = true := by kernel_rfl
theorem reach_loop {m0 : Mem} {n0 : Nat} {ea : Option Addr} {ec : Nat} (hb : rows.length ≤ 1000) (hE : Sl m0 n0 ea ec (rows.flatMap encE)) : ∀ (post pre : List ERow) (m : Mem) (n : Nat) (oa : Option Addr), rows = pre ++ post → Ow m n0 n tApiIP 1 oa pre.length pre.length ((pre.map ERow.dst).map vu) → Le m0 n0 m n → (Fs m0 n0 → Fs m n) →
    ∃ m' n' a', Ow m' n0 n' tApiIP 1 a' rows.length rows.length ((rows.map ERow.dst).map vu) ∧ Le m0 n0 m' n' ∧ (Fs m0 n0 → Fs m' n') ∧ ∀ Q : Value → Mem → Nat → Prop, Q (.slice a' rows.length rows.length) m' n' →
      W Try.prog { fn := fFibFibReach, nt := 28, slots := [(3, .slice oa pre.length pre.length), (15, .slice ea rows.length ec), (16, vi rows.length), (17, vi pre.length)], todo := pt Try.prog fFibFibReach [1, 1, 1, 0, 1, 0, 0] } m n Q
  | [], pre, m, n, oa, hp, how, hle, hfs => by
    simp only [List.append_nil] at hp
    subst hp
    refine ⟨m, n, oa, how, hle, hfs, fun Q hq => ?_⟩
    refine W_of mixed (cfg := xcfg) (fuel := 400) ?_
    rw [xFibFibReachk0]
    exact condDF (by omega) hq
  | q :: post, pre, m, n, oa, hp, how, hle, hfs => by
    have hlt : pre.length < rows.length := by rw [hp]; simp [-Bool.exists_bool]
    have hq : rows[pre.length] = q := by simp [-Bool.exists_bool, hp]
    have h0 := hle.le
    obtain ⟨m8, e8, g8, k8⟩ := storeN (m := m.set n (.cells none tFibentry 2 [.int .u32 0, .slice none 0 0])) (b := n) (T := tFibentry) (sz := 2) (cs := [.int .u32 0, .slice none 0 0]) (off := 0) (vs := encE q) (by simp [-Bool.exists_bool, Tr.get_set]) (by simp [-Bool.exists_bool, encE]) (by simp [-Bool.exists_bool, encE, cellOk])
    have g8 : m8.get n = some (.cells none tFibentry 2 (encE q)) := by rw [g8]; simp [-Bool.exists_bool, encE]
    have k8 : ∀ i, i ≠ n → m8.get i = m.get i := fun i hi => by rw [k8 i hi, Tr.get_set, if_neg (fun e => hi e.symm)]
    generalize e9 : m8.set (n + 1) (.cells none tApiIP 1 [vu q.dst]) = m9
    have k9 : ∀ i, i < n → m9.get i = m.get i := fun i hi => by rw [← e9, Tr.get_set, if_neg (by omega)]; exact k8 i (by omega)
    have hsc : sliceCells m9 1 1 (.slice (some ⟨n + 1, 0, none⟩) 1 1) = some [vu q.dst] := one_cell (T := tApiIP) (sz := 1) (by rw [← e9]; simp [-Bool.exists_bool, Tr.get_set])
    have how4 : Ow m9 n0 (n + 1 + 1) tApiIP 1 oa pre.length pre.length ((pre.map ERow.dst).map vu) := how.same (by omega) fun b o s e => k9 b (how.bnd e).2
    obtain ⟨a5, m5, n5, r1, r2, r3, r4, r5, r6⟩ := how4.append (t := tLapiIP) (k := 1) ipOk hsc (by simp [-Bool.exists_bool, cellOk]) (by simp [-Bool.exists_bool]) (by omega) (by omega)
    have el : (pre ++ [q]).length = pre.length + 1 := by simp [-Bool.exists_bool]
    obtain ⟨m', n', a', s1, s2, s3, run⟩ := reach_loop hb hE post (pre ++ [q]) m5 n5 a5 (by rw [hp]; simp [-Bool.exists_bool]) (by rw [el]; simpa [-Bool.exists_bool] using r2)
      ⟨by omega, fun i hi => by rw [r5 i (by omega) (fun b o s e => by have := (how4.bnd e).1; omega), k9 i (by omega)]; exact hle.same i hi⟩ (fun hf => r6 fun i hi => by rw [← e9, Tr.get_set, if_neg (by omega), k8 i (by omega)]; exact hfs hf i (by omega))
    refine ⟨m', n', a', s1, s2, s3, fun Q hq' => ?_⟩
    have fin := run Q hq'
    rw [el, ← wrapN (k := pre.length) (by omega)] at fin
    refine W_of mixed (cfg := xcfg) (fuel := 400) ?_
    rw [xFibFibReachk0]
    refine condDT (by omega) ((hE.le hle).ldv encE_len hlt (by omega) fun b o s' _ _ rr => ⟨_, _, _, _, by rw [hq] at rr; exact rr, memLet.mk fun mm e => ?_⟩)
    subst e
    refine ⟨m8, e8, isC_of g8, _, rd_of g8 rfl, memLet.mk fun mm e => ?_⟩
    have e : mm = m9 := e.trans e9
    subst e
    exact ⟨_, _, _, _, _, r1, fin⟩
theorem reach_x (h : FibS m n0 n fb s mp N me L rows ws) : ∃ a m' n', Ow m' n n' tApiIP 1 a rows.length rows.length ((rows.map ERow.dst).map vu) ∧ Le m n m' n' ∧ (Fs m n → Fs m' n') ∧ Exact Try.prog fFibFibReach [pp fb] m n (.slice a rows.length rows.length) m' n' := by
  obtain ⟨la, ea, g1, g2, g3, g4⟩ := h.gs
  have hm := h.many
  obtain ⟨m', n', a', r1, r2, r3, run⟩ := reach_loop (rows := rows) (by omega) g3.sl rows [] m n none rfl Ow.nil Le.refl id
  refine ⟨a', m', n', r1, r2, r3, fun Q hq => ?_⟩
  refine Wc_of mixed (cfg := xcfg) (fuel := 400) ?_
  rw [xFibFibReach]
  exact fvalid_c h ⟨_, rfl, Later.mk (condF rfl ⟨isC_of h.gf, _, rd_of h.gf rfl, isC_of g1, _, _, _, rd_of g1 rfl, run Q hq⟩)⟩
theorem map_flat : ∀ A : List Int, A.map vu = A.flatMap fun x => [vu x]
  | [] => rfl
  | x :: A => by simp [-Bool.exists_bool, map_flat A]
theorem sameip_loop {A B : List Int} {aa ba : Option Addr} {ac bc : Nat} {m0 : Mem} {n0 : Nat} (hA : Sl m0 n0 aa ac (A.map vu)) (hB : Sl m0 n0 ba bc (B.map vu)) (hl : A.length = B.length) (hbig : A.length ≤ 9223372036854775807) :
    ∀ (l pre : List Int) (n : Nat), A = pre ++ l → n0 ≤ n → W Try.prog { fn := fKitSameapiIP, nt := 26, slots := [(0, .slice aa A.length ac), (1, .slice ba B.length bc), (5, .int .i64 pre.length)], todo := pt Try.prog fKitSameapiIP [1, 1, 0, 1, 0, 0] } m0 n fun v m' n' => v = .bool (decide (l = B.drop pre.length)) ∧ Le m0 n0 m' n'
  | [], pre, n, h, hn => by
    refine W_of mixed (cfg := xcfg) (fuel := 400) ?_
    rw [xKitSameapiIPk0]
    simp only [List.append_nil] at h
    refine condDF (by simp [-Bool.exists_bool, h]) ⟨?_, Le.refl.up hn⟩
    subst h; rw [hl]; simp [-Bool.exists_bool]
  | y :: l, pre, n, h, hn => by
    have hlt : pre.length < A.length := by simp [-Bool.exists_bool, h]
    have hltb : pre.length < B.length := by omega
    have hy : A[pre.length] = y := by simp [-Bool.exists_bool, h]
    have hlen : (((pre ++ [y]).length : Nat) : Int) = ((pre.length + 1 : Nat) : Int) := by simp [-Bool.exists_bool]
    have nxt := sameip_loop hA hB hl hbig l (pre ++ [y]) (n + 9) (by simp [-Bool.exists_bool, h]) (by omega)
    rw [hlen, ← wrapN (k := pre.length) (by omega)] at nxt
    refine W_of mixed (cfg := xcfg) (fuel := 400) ?_
    rw [xKitSameapiIPk0]
    have fA := map_flat A
    have fB := map_flat B
    have hA' := hA; have hB' := hB
    rw [fA] at hA'; rw [fB] at hB'
    refine condDT (by omega) (hA'.ldv (sz := 1) (fun _ => rfl) hlt (by omega) fun b o s' _ r _ => ⟨y, by have := r 0 _ rfl; rw [hy] at this; simpa [-Bool.exists_bool] using this, ?_⟩)
    refine hB'.ldv (sz := 1) (fun _ => rfl) hltb (by omega) fun b o s' _ r _ => ⟨B[pre.length], by have := r 0 _ rfl; simpa [-Bool.exists_bool] using this, ?_⟩
    have hd : B.drop pre.length = B[pre.length] :: B.drop (pre.length + 1) := List.drop_eq_getElem_cons hltb
    refine condN (fun hne => ⟨?_, Le.refl.up (by omega)⟩) fun he => ?_
    · rw [decide_eq_false (fun e => hne (List.cons.inj (e.trans hd)).1)]
    · refine W.mono nxt fun v m' n' ⟨h1, h2⟩ => ⟨?_, h2⟩
      rw [h1, List.length_append, List.length_singleton]
      congr 1
      have : (l = B.drop (pre.length + 1)) ↔ (y :: l = B.drop pre.length) := ⟨fun e => by rw [hd, ← e, he], fun e => (List.cons.inj (e.trans hd)).2⟩
      exact bool_congr (by simp only [decide_eq_true_eq]; exact this)
theorem sameip_c {A B : List Int} {aa ba : Option Addr} {al bl ac bc : Nat} (e1 : A.length = al) (e2 : B.length = bl) (hA : Sl m n aa ac (A.map vu)) (hB : Sl m n ba bc (B.map vu)) (hbig : A.length ≤ 9223372036854775807) {Q : Value → Mem → Nat → Prop} (hq : Q (.bool (decide (A = B))) m n) :
    Wc Try.prog fKitSameapiIP [.slice aa al ac, .slice ba bl bc] m n Q := by
  subst e1; subst e2
  refine Wc.scalar ?_ rfl hq
  refine Wc_of mixed (cfg := xcfg) (fuel := 400) ?_
  rw [xKitSameapiIP]
  refine condN (fun h => ⟨?_, Le.refl⟩) fun h => ?_
  · rw [decide_eq_false (by rintro rfl; exact h rfl)]
  · exact sameip_loop hA hB (by omega) hbig A [] n rfl (Nat.le_refl _)
theorem refused_x (h : FibS m n0 n fb s mp N me L rows ws) (hfound : ∀ r ∈ rows, ∃ i, i < ws.length ∧ r.dst = lo i ∧ i < 32) {want : Int} (hr : ∀ link q e, FwR rows ws me p link q e → link = 0 ∧ q = zeroP ∧ e = want) :
    ∃ m' n', Le m n m' n' ∧ (Fs m n → Fs m' n') ∧ Exact Try.prog fLaw14refused [pp fb, .agg ⟨pktF p⟩, vi want] m n (.bool true) m' n' := by
  generalize e1 : m.set n (.cells none tApiPacket 21 (pktF p)) = m1
  have le1 : Le m n m1 (n + 1) := by rw [← e1]; exact Le.new
  have g1 : m1.get n = some (.cells none tApiPacket 21 (pktF p)) := by rw [← e1]; simp [-Bool.exists_bool, Tr.get_set]
  obtain ⟨m2, n2, link, q, e, hf, le2, fs2, run⟩ := fwd_c (p := p) (h.le le1) hfound
  obtain ⟨rfl, rfl, rfl⟩ := hr _ _ _ hf
  obtain ⟨m4, e4, g4, k4⟩ := storeN (m := m2.set n2 (.cells none tApiPacket 21 (pktF zeroP))) (b := n2) (T := tApiPacket) (sz := 21) (cs := pktF zeroP) (off := 0) (vs := pktF zeroP) (by simp [-Bool.exists_bool, Tr.get_set]) (by simp [-Bool.exists_bool, pkt_len]) zero_all
  have g4 : m4.get n2 = some (.cells none tApiPacket 21 (pktF zeroP)) := by rw [g4]; rfl
  have k4 : ∀ i, i ≠ n2 → m4.get i = m2.get i := fun i hi => by rw [k4 i hi, Tr.get_set, if_neg (fun e => hi e.symm)]
  have hle := le2.le
  refine ⟨m4, n2 + 1, ⟨by omega, fun i hi => by rw [k4 i (by omega)]; exact (le1.trans le2).same i hi⟩, fun hf i hi => by rw [k4 i (by omega)]; exact fs2 (by rw [← e1]; exact hf.set) i (by omega), fun Q hq => ?_⟩
  refine Wc_of mixed (cfg := xcfg) (fuel := 400) ?_
  unfold pktF
  rw [xLaw14refused]
  refine memLet.mk fun mm e => ?_
  have e : mm = m1 := e.trans e1
  subst e
  refine ⟨_, _, _, _, _, _, _, _, _, _, _, _, _, _, _, _, _, _, _, _, _, rds_of g1, run _ ⟨_, _, _, _, _, _, _, _, _, _, _, _, _, _, _, _, _, _, _, _, _, _, _, rfl, Later.mk (memLet.mk fun m3 e3 => ?_)⟩⟩
  subst e3
  refine ⟨m4, e4, condET rfl (condET rfl ⟨_, _, _, _, _, _, _, _, _, _, _, _, _, _, _, _, _, _, _, _, _, rds_of g4, ?_⟩)⟩
  exact hq
end
end Go.Proofs.Ytiomjekkmjinbaa

set_option maxRecDepth 100000
namespace Go.Proofs.Ytiomjekkmjinbaa
open Go Go.Ab Spf
section
variable {m m' m0 : Mem} {n n' n0 fb s mp k b : Nat} {N me y : Int} {L : List Lk} {rows : List ERow} {ws : List WR} {p : Nat → Int}
def mkP (d t : Int) : Nat → Int
  | 1 => d
  | 2 => t
  | _ => 0
abbrev UD : List Bool := [false, false, true, true]
theorem of_cut : OfR 4 sqL UD 0 [] := by
  unfold OfR
  rw [if_pos (by decide)]
  have a0 : NextR 4 sqL UD 0 0 [] := nextR_of [0, -1, -1, -1] (by decide) (by decide) (by decide)
  have a1 : NextR 4 sqL UD 0 1 [] := nextR_of [-1, 0, 1, 1] (by decide) (by decide) (by decide)
  have a2 : NextR 4 sqL UD 0 2 [] := nextR_of [-1, 1, 0, 2] (by decide) (by decide) (by decide)
  have a3 : NextR 4 sqL UD 0 3 [] := nextR_of [-1, 1, 2, 0] (by decide) (by decide) (by decide)
  exact (((OfL.nil (k := 0) rfl a0).nil (k := 1) a1).nil (k := 2) a2).nil (k := 3) a3
theorem known_k2 {la : Option Addr} {lc : Nat} (hL : Sl m n la lc (sqL.flatMap encL)) {Q : Value → Mem → Nat → Prop} (hq : ∀ m' n', Q (.bool true) m' n') :
    W Try.prog { fn := fLaw14FibKnown, nt := 127, slots := [(1, .slice la 4 lc), (5, .bool true), (6, .bool true), (9, .bool true)], todo := pt Try.prog fLaw14FibKnown [1, 1, 1, 1, 1, 1, 1, 1, 0] } m n Q := by
  refine W_of1 mixed (cfg := xcfg) (fuel := 400) ?_
  rw [xLaw14FibKnownk2]
  refine memLet.mk fun m1 e1 => ?_
  have g1 : m1.get n = some (.cells none tApiLink 3 (([⟨0, 4, 1⟩] : List Lk).flatMap encL)) := by rw [e1]; simp [-Bool.exists_bool, Tr.get_set]; rfl
  have le1 : Le m n m1 (n + 1) := by rw [e1]; exact Le.new
  obtain ⟨m2, n2, le2, _, run2⟩ := fnew_bad (m := m1) (n := n + 1) (N := 4) (me := 0) (L := [⟨0, 4, 1⟩]) (lc := 1) (sl_lit g1 (by omega)) (by simp [-Bool.exists_bool]) (by decide)
  refine run2 _ ⟨_, _, rfl, Later.mk ?_⟩
  obtain ⟨m3, n3, le3, _, run3⟩ := fnew_range (N := 4) (me := 4) (L := sqL) ((hL.le le1).le le2) (by decide) (by omega)
  exact run3 _ ⟨_, _, rfl, Later.mk (awake_c ⟨_, rfl, Later.mk (condT rfl (condT rfl (condT rfl (condT rfl (condET rfl (hq _ _))))))⟩)⟩
theorem known_k1 {la : Option Addr} {lc : Nat} (hL : Sl m n la lc (sqL.flatMap encL)) (h : FibS m n0 n fb s mp 4 0 sqL rows ws) (hn : n0 ≤ n) (hf : Fs m n) (hla : ∀ b o s', la = some ⟨b, o, s'⟩ → b < n0) {Q : Value → Mem → Nat → Prop} (hq : ∀ m' n', Q (.bool true) m' n') :
    W Try.prog { fn := fLaw14FibKnown, nt := 127, slots := [(1, .slice la 4 lc), (3, pp fb), (5, .bool true), (6, .bool true)], todo := pt Try.prog fLaw14FibKnown [1, 1, 1, 1, 1, 1, 0] } m n Q := by
  refine W_of1 mixed (cfg := xcfg) (fuel := 400) ?_
  rw [xLaw14FibKnownk1]
  refine memLet.mk fun m1 e1 => ?_
  have le1 : Le m n m1 (n + 1) := by rw [e1]; exact Le.new
  have g1 : m1.get n = some (.cells none tInt 1 ([(0 : Int), 1].map vi)) := by rw [e1]; simp [-Bool.exists_bool, Tr.get_set]
  obtain ⟨m2, l2, u2, le2, fs2, run2⟩ := square_c (m := m1) (n := n + 1) (down := [0, 1]) (da := some ⟨n, 0, none⟩) (dl := 2) (dc := 2) rfl (sl_lit g1 (by omega)) (by simp [-Bool.exists_bool])
  refine run2 _ ⟨_, _, _, _, _, _, rfl, Later.mk ?_⟩
  have le12 := le1.trans le2
  have f2 : Fs m2 (n + 1 + 2) := fs2 (by rw [e1]; exact hf.set)
  have h2 := h.le le12
  have hs := h.hi.2.1
  obtain ⟨m3, n3, R, ws', u3, run3⟩ := update_c (U := UD) (ul := 4) (uc := 4) h2 f2 (by omega) (by omega) (by omega) rfl (sl_lit u2 (by omega)) rfl (fun o s' e => by cases e; omega)
  refine run3 _ ⟨_, rfl, Later.mk (condET rfl ?_)⟩
  obtain ⟨a4, m4, n4, ow4, le4, fs4, run4⟩ := reach_x u3.fib
  have hR : R = [] := by have := u3.of.uniq of_cut; simpa [-Bool.exists_bool] using this
  refine run4 _ ⟨_, _, _, rfl, Later.mk (condET (by rw [hR]; rfl) ⟨by omega, ?_⟩)⟩
  refine update_bad (u3.fib.le le4) (by decide) _ ⟨_, rfl, Later.mk ?_⟩
  refine known_k2 ?_ hq
  have hle3 := u3.le
  refine (hL.le le12).same (n' := n4) (m' := m4) (by have := le4.le; omega) fun b o s' e => ?_
  have hb := hla _ _ _ e
  have h1 := h.lo
  rw [le4.same b (by omega), u3.same b (by omega) (by omega) (by omega) (fun r hr => by have := h.wlo r hr; omega)]
theorem known_k0 {la : Option Addr} {lc : Nat} (hL : Sl m n la lc (sqL.flatMap encL)) (h : FibS m n0 n fb s mp 4 0 sqL rows ws) (hk : rows.map ERow.key = E1) (hfound : ∀ r ∈ rows, ∃ i, i < ws.length ∧ r.dst = lo i ∧ i < 32) (hn : n0 ≤ n) (hf : Fs m n) (hla : ∀ b o s', la = some ⟨b, o, s'⟩ → b < n0) {Q : Value → Mem → Nat → Prop} (hq : ∀ m' n', Q (.bool true) m' n') :
    W Try.prog { fn := fLaw14FibKnown, nt := 127, slots := [(1, .slice la 4 lc), (3, pp fb), (5, .bool true)], todo := pt Try.prog fLaw14FibKnown [1, 1, 1, 1, 1, 0] } m n Q := by
  refine W_of1 mixed (cfg := xcfg) (fuel := 400) ?_
  rw [xLaw14FibKnownk0]
  obtain ⟨m1, n1, le1, fs1, run1⟩ := refused_x (p := mkP (lo 0) 9) (want := 9) h hfound (fun link q e hr => by
    unfold FwR at hr
    rw [if_pos (by decide)] at hr; exact hr)
  refine loop_c (by omega) (by omega) ⟨_, rfl, Later.mk (run1 _ ⟨_, rfl, Later.mk (condT rfl ?_)⟩)⟩
  obtain ⟨m2, n2, le2, fs2, run2⟩ := refused_x (p := mkP (lo 2) 1) (want := 20) (h.le le1) hfound (fun link q e hr => by
    unfold FwR at hr
    rw [if_neg (by decide), if_pos (by decide)] at hr; exact hr)
  refine loop_c (by omega) (by omega) ⟨_, rfl, Later.mk (run2 _ ⟨_, rfl, Later.mk (condT rfl ?_)⟩)⟩
  obtain ⟨m3, n3, le3, fs3, run3⟩ := refused_x (p := mkP 16909060 9) (want := 13) ((h.le le1).le le2) hfound (fun link q e hr => by
    unfold FwR at hr
    rw [if_neg (by decide), if_neg (by decide), if_pos (fun r hr2 => by
      have h1 : r.key ∈ E1 := by rw [← hk]; exact List.mem_map_of_mem hr2
      have h2 : r.dst = lo 1 ∨ r.dst = lo 2 ∨ r.dst = lo 3 := by
        simp only [E1, ERow.key, List.mem_cons, Prod.mk.injEq, List.not_mem_nil, or_false] at h1
        rcases h1 with h | h | h
        · exact .inl h.1
        · exact .inr (.inl h.1)
        · exact .inr (.inr h.1)
      show r.dst ≠ 16909060
      unfold lo at h2
      omega)] at hr; exact hr)
  refine run3 _ ⟨_, rfl, Later.mk ?_⟩
  have le13 := (le1.trans le2).trans le3
  exact known_k1 (hL.le le13) (h.le le13) (by have := le13.le; omega) (fs3 (fs2 (fs1 hf))) hla hq
theorem known_run (hf : Fs m n) {Q : Value → Mem → Nat → Prop} (hq : ∀ m' n', Q (.bool true) m' n') : Wc Try.prog fLaw14FibKnown [] m n Q := by
  refine Wc_of mixed (cfg := xcfg) (fuel := 400) ?_
  rw [xLaw14FibKnown]
  obtain ⟨m1, l1, u1, le1, fs1, run1⟩ := square_c (m := m) (n := n) (down := []) (da := none) (dl := 0) (dc := 0) rfl Sl.nil (by simp [-Bool.exists_bool])
  refine run1 _ ⟨_, _, _, _, _, _, rfl, Later.mk ?_⟩
  have hL : Sl m1 (n + 2) (some ⟨n, 0, none⟩) 4 (sqL.flatMap encL) := sl_lit l1 (by omega)
  have hU : Sl m1 (n + 2) (some ⟨n + 1, 0, none⟩) 4 (UT.map Value.bool) := sl_lit u1 (by omega)
  obtain ⟨m2, n2, fb, s, mp, fib2, le2, fs2, run2⟩ := fnew_c (N := 4) (me := 0) (L := sqL) hL (by decide) (by omega) (by omega)
  refine run2 _ ⟨_, _, rfl, Later.mk (condNF rfl (condF rfl ?_))⟩
  obtain ⟨a3, m3, n3, ow3, le3, fs3, run3⟩ := reach_x fib2
  refine run3 _ ⟨_, _, _, rfl, Later.mk (condET rfl (loop_c (by omega) (by omega) ⟨_, rfl, Later.mk ?_⟩))⟩
  obtain ⟨m4, n4, le4, fs4, run4⟩ := refused_x (p := mkP (lo 1) 9) (want := 13) (fib2.le le3) (fun _ h => nomatch h) (fun link q e hr => by
    unfold FwR at hr
    rw [if_neg (by decide), if_neg (by decide), if_pos (fun _ h => nomatch h)] at hr; exact hr)
  refine run4 _ ⟨_, rfl, Later.mk (condT rfl ?_)⟩
  have le24 := (le2.trans le3).trans le4
  have fib4 := (fib2.le le3).le le4
  have f4 : Fs m4 n4 := fs4 (fs3 (fs2 (fs1 hf)))
  have hlo := fib2.lo
  have l24 := le24.le
  obtain ⟨m5, n5, R, ws, u5, run5⟩ := update_c (U := UT) (ul := 4) fib4 f4 (by omega) (by omega) (by omega) rfl (hU.le le24) rfl (fun o s' e => by cases e; omega)
  refine run5 _ ⟨_, rfl, Later.mk (condET rfl ?_)⟩
  have hk := u5.of.uniq of_one
  have hlen : R.length = 3 := by have := congrArg List.length hk; simpa [-Bool.exists_bool, E1] using this
  obtain ⟨a6, m6, n6, ow6, le6, fs6, run6⟩ := reach_x u5.fib
  refine run6 _ ⟨_, _, _, rfl, Later.mk (loop_c (by omega) (by omega) ⟨_, rfl, Later.mk (loop_c (by omega) (by omega) ⟨_, rfl, Later.mk (loop_c (by omega) (by omega) ⟨_, rfl, Later.mk (memLet.mk fun m7 e7 => ?_)⟩)⟩)⟩)⟩
  have le7 : Le m6 n6 m7 (n6 + 1) := by rw [e7]; exact Le.new
  have g7 : m7.get n6 = some (.cells none tApiIP 1 (([lo 1, lo 2, lo 3] : List Int).map vu)) := by rw [e7]; simp [-Bool.exists_bool, Tr.get_set]
  have hd : R.map ERow.dst = [lo 1, lo 2, lo 3] := by
    have : R.map ERow.dst = (R.map ERow.key).map Prod.fst := by rw [List.map_map]; rfl
    rw [this, hk]; rfl
  refine sameip_c (A := R.map ERow.dst) (B := [lo 1, lo 2, lo 3]) (by simp [-Bool.exists_bool]) rfl (ow6.sl.le le7) (sl_lit g7 (by omega)) (by simp; omega) ⟨_, rfl, Later.mk (condT (decide_eq_true hd) (loop_c (by omega) (by omega) ⟨_, rfl, Later.mk ?_⟩))⟩
  have fib7 := (u5.fib.le le6).le le7
  obtain ⟨a8, m8, n8, ow8, _, le8, fs8, run8⟩ := lookup_x fib7 (lo 1)
  refine run8 _ ⟨_, _, _, rfl, Later.mk (memLet.mk fun m9 e9 => ?_)⟩
  have le9 : Le m8 n8 m9 (n8 + 1) := by rw [e9]; exact Le.new
  have g9 : m9.get n8 = some (.cells none tInt 1 (([0, 1] : List Int).map vi)) := by rw [e9]; simp [-Bool.exists_bool, Tr.get_set]
  have hX : lookP R (lo 1) = [0, 1] := by rw [lookP_key, hk]; decide
  refine same_c (A := lookP R (lo 1)) (B := [0, 1]) rfl rfl (ow8.sl.le le9) (sl_lit g9 (by omega)) (by rw [hX]; simp [-Bool.exists_bool]) ⟨_, rfl, Later.mk ?_⟩
  rw [decide_eq_true hX]
  have le59 := ((le6.trans le7).trans le8).trans le9
  have l59 := le59.le
  have l45 := u5.le
  refine known_k0 ?_ ((fib7.le le8).le le9) hk (u5.of.found (by omega) (by rw [u5.len]; decide)) (by omega) ?_ (fun b o s' e => by cases e; omega) hq
  · refine (hL.le le24).same (by omega) fun b o s' e => ?_
    cases e
    rw [le59.same _ (by omega), u5.same _ (by omega) (by omega) (by omega) (fun _ h => nomatch h)]
  · have : Fs m7 (n6 + 1) := by rw [e7]; exact (fs6 u5.fs).set
    rw [e9]; exact (fs8 this).set
theorem known_c {Q : Value → Mem → Nat → Prop} (hq : Q (.bool true) m n) : Wc Try.prog fLaw14FibKnown [] m n Q :=
  Wc.closed (R := fun v => v = .bool true) rfl (known_run (m := .leaf) (n := 0) (fun i _ => by simp [-Bool.exists_bool, Tr.get]) fun _ _ => ⟨rfl, rfl⟩) fun v hv => by subst hv; exact hq
end
end Go.Proofs.Ytiomjekkmjinbaa

namespace Go.Proofs.Ytiomjekkmjinbaa
open Go Go.Ab Spf
theorem fibKnown_main (m : Mem) (n : Nat) (ars : List Value) (hl : ars.length = ([] : List TypeId).length) (_ : ∀ (j : Nat) t a, ([] : List TypeId)[j]? = some t → ars[j]? = some a → TyV Try.prog m t a)
    (_ : ∀ i o, m.get i = some o → own o = false) (_ : ∀ i, n ≤ i → m.get i = none) : Wc Try.prog fLaw14FibKnown ars m n fun v _ _ => v = .bool true := by
  match ars, hl with
  | [], _ => exact known_c rfl
end Go.Proofs.Ytiomjekkmjinbaa
