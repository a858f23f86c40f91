/- WFibReach: what parts of the program compute; helper of the claim. -/
import Derived.Test.YtiomjekkmjinbaaWC
set_option maxRecDepth 100000
namespace Go.Proofs.Ytiomjekkmjinbaa
open Go Go.Ab Spf
section
variable {m m' m0 : Mem} {n n' n0 fb s mp k b : Nat} {N me y : Int} {L : List Lk} {rows : List ERow} {ws : List WR} {p : Nat → Int}
abbrev vu (x : Int) : Value := .int .u32 x
theorem ipOk : elemOk Try.prog tLapiIP tApiIP 1 = true := by kernel_rfl
theorem reach_loop {m0 : Mem} {n0 : Nat} {ea : Option Addr} {ec : Nat} (hb : rows.length ≤ 1000) (hE : Sl m0 n0 ea ec (rows.flatMap encE)) : ∀ (post pre : List ERow) (m : Mem) (n : Nat) (oa : Option Addr), rows = pre ++ post → Ow m n0 n tApiIP 1 oa pre.length pre.length ((pre.map ERow.dst).map vu) → Le m0 n0 m n → (Fs m0 n0 → Fs m n) →
    ∃ m' n' a', Ow m' n0 n' tApiIP 1 a' rows.length rows.length ((rows.map ERow.dst).map vu) ∧ Le m0 n0 m' n' ∧ (Fs m0 n0 → Fs m' n') ∧ ∀ Q : Value → Mem → Nat → Prop, Q (.slice a' rows.length rows.length) m' n' →
      W Try.prog { fn := fFibFibReach, nt := 28, slots := [(3, .slice oa pre.length pre.length), (15, .slice ea rows.length ec), (16, vi rows.length), (17, vi pre.length)], todo := pt Try.prog fFibFibReach [1, 1, 1, 0, 1, 0, 0] } m n Q
  | [], pre, m, n, oa, hp, how, hle, hfs => by
    simp only [List.append_nil] at hp
    subst hp
    refine ⟨m, n, oa, how, hle, hfs, fun Q hq => ?_⟩
    refine W_of mixed (cfg := xcfg) (fuel := 400) ?_
    rw [xFibFibReachk0]
    exact condDF (by omega) hq
  | q :: post, pre, m, n, oa, hp, how, hle, hfs => by
    have hlt : pre.length < rows.length := by rw [hp]; simp [-Bool.exists_bool]
    have hq : rows[pre.length] = q := by simp [-Bool.exists_bool, hp]
    have h0 := hle.le
    obtain ⟨m8, e8, g8, k8⟩ := storeN (m := m.set n (.cells none tFibentry 2 [.int .u32 0, .slice none 0 0])) (b := n) (T := tFibentry) (sz := 2) (cs := [.int .u32 0, .slice none 0 0]) (off := 0) (vs := encE q) (by simp [-Bool.exists_bool, Tr.get_set]) (by simp [-Bool.exists_bool, encE]) (by simp [-Bool.exists_bool, encE, cellOk])
    have g8 : m8.get n = some (.cells none tFibentry 2 (encE q)) := by rw [g8]; simp [-Bool.exists_bool, encE]
    have k8 : ∀ i, i ≠ n → m8.get i = m.get i := fun i hi => by rw [k8 i hi, Tr.get_set, if_neg (fun e => hi e.symm)]
    generalize e9 : m8.set (n + 1) (.cells none tApiIP 1 [vu q.dst]) = m9
    have k9 : ∀ i, i < n → m9.get i = m.get i := fun i hi => by rw [← e9, Tr.get_set, if_neg (by omega)]; exact k8 i (by omega)
    have hsc : sliceCells m9 1 1 (.slice (some ⟨n + 1, 0, none⟩) 1 1) = some [vu q.dst] := one_cell (T := tApiIP) (sz := 1) (by rw [← e9]; simp [-Bool.exists_bool, Tr.get_set])
    have how4 : Ow m9 n0 (n + 1 + 1) tApiIP 1 oa pre.length pre.length ((pre.map ERow.dst).map vu) := how.same (by omega) fun b o s e => k9 b (how.bnd e).2
    obtain ⟨a5, m5, n5, r1, r2, r3, r4, r5, r6⟩ := how4.append (t := tLapiIP) (k := 1) ipOk hsc (by simp [-Bool.exists_bool, cellOk]) (by simp [-Bool.exists_bool]) (by omega) (by omega)
    have el : (pre ++ [q]).length = pre.length + 1 := by simp [-Bool.exists_bool]
    obtain ⟨m', n', a', s1, s2, s3, run⟩ := reach_loop hb hE post (pre ++ [q]) m5 n5 a5 (by rw [hp]; simp [-Bool.exists_bool]) (by rw [el]; simpa [-Bool.exists_bool] using r2)
      ⟨by omega, fun i hi => by rw [r5 i (by omega) (fun b o s e => by have := (how4.bnd e).1; omega), k9 i (by omega)]; exact hle.same i hi⟩ (fun hf => r6 fun i hi => by rw [← e9, Tr.get_set, if_neg (by omega), k8 i (by omega)]; exact hfs hf i (by omega))
    refine ⟨m', n', a', s1, s2, s3, fun Q hq' => ?_⟩
    have fin := run Q hq'
    rw [el, ← wrapN (k := pre.length) (by omega)] at fin
    refine W_of mixed (cfg := xcfg) (fuel := 400) ?_
    rw [xFibFibReachk0]
    refine condDT (by omega) ((hE.le hle).ldv encE_len hlt (by omega) fun b o s' _ _ rr => ⟨_, _, _, _, by rw [hq] at rr; exact rr, memLet.mk fun mm e => ?_⟩)
    subst e
    refine ⟨m8, e8, isC_of g8, _, rd_of g8 rfl, memLet.mk fun mm e => ?_⟩
    have e : mm = m9 := e.trans e9
    subst e
    exact ⟨_, _, _, _, _, r1, fin⟩
theorem reach_x (h : FibS m n0 n fb s mp N me L rows ws) : ∃ a m' n', Ow m' n n' tApiIP 1 a rows.length rows.length ((rows.map ERow.dst).map vu) ∧ Le m n m' n' ∧ (Fs m n → Fs m' n') ∧ Exact Try.prog fFibFibReach [pp fb] m n (.slice a rows.length rows.length) m' n' := by
  obtain ⟨la, ea, g1, g2, g3, g4⟩ := h.gs
  have hm := h.many
  obtain ⟨m', n', a', r1, r2, r3, run⟩ := reach_loop (rows := rows) (by omega) g3.sl rows [] m n none rfl Ow.nil Le.refl id
  refine ⟨a', m', n', r1, r2, r3, fun Q hq => ?_⟩
  refine Wc_of mixed (cfg := xcfg) (fuel := 400) ?_
  rw [xFibFibReach]
  exact fvalid_c h ⟨_, rfl, Later.mk (condF rfl ⟨isC_of h.gf, _, rd_of h.gf rfl, isC_of g1, _, _, _, rd_of g1 rfl, run Q hq⟩)⟩
theorem map_flat : ∀ A : List Int, A.map vu = A.flatMap fun x => [vu x]
  | [] => rfl
  | x :: A => by simp [-Bool.exists_bool, map_flat A]
theorem sameip_loop {A B : List Int} {aa ba : Option Addr} {ac bc : Nat} {m0 : Mem} {n0 : Nat} (hA : Sl m0 n0 aa ac (A.map vu)) (hB : Sl m0 n0 ba bc (B.map vu)) (hl : A.length = B.length) (hbig : A.length ≤ 9223372036854775807) :
    ∀ (l pre : List Int) (n : Nat), A = pre ++ l → n0 ≤ n → W Try.prog { fn := fKitSameapiIP, nt := 26, slots := [(0, .slice aa A.length ac), (1, .slice ba B.length bc), (5, .int .i64 pre.length)], todo := pt Try.prog fKitSameapiIP [1, 1, 0, 1, 0, 0] } m0 n fun v m' n' => v = .bool (decide (l = B.drop pre.length)) ∧ Le m0 n0 m' n'
  | [], pre, n, h, hn => by
    refine W_of mixed (cfg := xcfg) (fuel := 400) ?_
    rw [xKitSameapiIPk0]
    simp only [List.append_nil] at h
    refine condDF (by simp [-Bool.exists_bool, h]) ⟨?_, Le.refl.up hn⟩
    subst h; rw [hl]; simp [-Bool.exists_bool]
  | y :: l, pre, n, h, hn => by
    have hlt : pre.length < A.length := by simp [-Bool.exists_bool, h]
    have hltb : pre.length < B.length := by omega
    have hy : A[pre.length] = y := by simp [-Bool.exists_bool, h]
    have hlen : (((pre ++ [y]).length : Nat) : Int) = ((pre.length + 1 : Nat) : Int) := by simp [-Bool.exists_bool]
    have nxt := sameip_loop hA hB hl hbig l (pre ++ [y]) (n + 9) (by simp [-Bool.exists_bool, h]) (by omega)
    rw [hlen, ← wrapN (k := pre.length) (by omega)] at nxt
    refine W_of mixed (cfg := xcfg) (fuel := 400) ?_
    rw [xKitSameapiIPk0]
    have fA := map_flat A
    have fB := map_flat B
    have hA' := hA; have hB' := hB
    rw [fA] at hA'; rw [fB] at hB'
    refine condDT (by omega) (hA'.ldv (sz := 1) (fun _ => rfl) hlt (by omega) fun b o s' _ r _ => ⟨y, by have := r 0 _ rfl; rw [hy] at this; simpa [-Bool.exists_bool] using this, ?_⟩)
    refine hB'.ldv (sz := 1) (fun _ => rfl) hltb (by omega) fun b o s' _ r _ => ⟨B[pre.length], by have := r 0 _ rfl; simpa [-Bool.exists_bool] using this, ?_⟩
    have hd : B.drop pre.length = B[pre.length] :: B.drop (pre.length + 1) := List.drop_eq_getElem_cons hltb
    refine condN (fun hne => ⟨?_, Le.refl.up (by omega)⟩) fun he => ?_
    · rw [decide_eq_false (fun e => hne (List.cons.inj (e.trans hd)).1)]
    · refine W.mono nxt fun v m' n' ⟨h1, h2⟩ => ⟨?_, h2⟩
      rw [h1, List.length_append, List.length_singleton]
      congr 1
      have : (l = B.drop (pre.length + 1)) ↔ (y :: l = B.drop pre.length) := ⟨fun e => by rw [hd, ← e, he], fun e => (List.cons.inj (e.trans hd)).2⟩
      exact bool_congr (by simp only [decide_eq_true_eq]; exact this)
theorem sameip_c {A B : List Int} {aa ba : Option Addr} {al bl ac bc : Nat} (e1 : A.length = al) (e2 : B.length = bl) (hA : Sl m n aa ac (A.map vu)) (hB : Sl m n ba bc (B.map vu)) (hbig : A.length ≤ 9223372036854775807) {Q : Value → Mem → Nat → Prop} (hq : Q (.bool (decide (A = B))) m n) :
    Wc Try.prog fKitSameapiIP [.slice aa al ac, .slice ba bl bc] m n Q := by
  subst e1; subst e2
  refine Wc.scalar ?_ rfl hq
  refine Wc_of mixed (cfg := xcfg) (fuel := 400) ?_
  rw [xKitSameapiIP]
  refine condN (fun h => ⟨?_, Le.refl⟩) fun h => ?_
  · rw [decide_eq_false (by rintro rfl; exact h rfl)]
  · exact sameip_loop hA hB (by omega) hbig A [] n rfl (Nat.le_refl _)
theorem refused_x (h : FibS m n0 n fb s mp N me L rows ws) (hfound : ∀ r ∈ rows, ∃ i, i < ws.length ∧ r.dst = lo i ∧ i < 32) {want : Int} (hr : ∀ link q e, FwR rows ws me p link q e → link = 0 ∧ q = zeroP ∧ e = want) :
    ∃ m' n', Le m n m' n' ∧ (Fs m n → Fs m' n') ∧ Exact Try.prog fLaw14refused [pp fb, .agg ⟨pktF p⟩, vi want] m n (.bool true) m' n' := by
  generalize e1 : m.set n (.cells none tApiPacket 21 (pktF p)) = m1
  have le1 : Le m n m1 (n + 1) := by rw [← e1]; exact Le.new
  have g1 : m1.get n = some (.cells none tApiPacket 21 (pktF p)) := by rw [← e1]; simp [-Bool.exists_bool, Tr.get_set]
  obtain ⟨m2, n2, link, q, e, hf, le2, fs2, run⟩ := fwd_c (p := p) (h.le le1) hfound
  obtain ⟨rfl, rfl, rfl⟩ := hr _ _ _ hf
  obtain ⟨m4, e4, g4, k4⟩ := storeN (m := m2.set n2 (.cells none tApiPacket 21 (pktF zeroP))) (b := n2) (T := tApiPacket) (sz := 21) (cs := pktF zeroP) (off := 0) (vs := pktF zeroP) (by simp [-Bool.exists_bool, Tr.get_set]) (by simp [-Bool.exists_bool, pkt_len]) zero_all
  have g4 : m4.get n2 = some (.cells none tApiPacket 21 (pktF zeroP)) := by rw [g4]; rfl
  have k4 : ∀ i, i ≠ n2 → m4.get i = m2.get i := fun i hi => by rw [k4 i hi, Tr.get_set, if_neg (fun e => hi e.symm)]
  have hle := le2.le
  refine ⟨m4, n2 + 1, ⟨by omega, fun i hi => by rw [k4 i (by omega)]; exact (le1.trans le2).same i hi⟩, fun hf i hi => by rw [k4 i (by omega)]; exact fs2 (by rw [← e1]; exact hf.set) i (by omega), fun Q hq => ?_⟩
  refine Wc_of mixed (cfg := xcfg) (fuel := 400) ?_
  unfold pktF
  rw [xLaw14refused]
  refine memLet.mk fun mm e => ?_
  have e : mm = m1 := e.trans e1
  subst e
  refine ⟨_, _, _, _, _, _, _, _, _, _, _, _, _, _, _, _, _, _, _, _, _, rds_of g1, run _ ⟨_, _, _, _, _, _, _, _, _, _, _, _, _, _, _, _, _, _, _, _, _, _, _, rfl, Later.mk (memLet.mk fun m3 e3 => ?_)⟩⟩
  subst e3
  refine ⟨m4, e4, condET rfl (condET rfl ⟨_, _, _, _, _, _, _, _, _, _, _, _, _, _, _, _, _, _, _, _, _, rds_of g4, ?_⟩)⟩
  exact hq
end
end Go.Proofs.Ytiomjekkmjinbaa

set_option maxRecDepth 100000
namespace Go.Proofs.Ytiomjekkmjinbaa
open Go Go.Ab Spf
section
variable {m m' m0 : Mem} {n n' n0 fb s mp k b : Nat} {N me y : Int} {L : List Lk} {rows : List ERow} {ws : List WR} {p : Nat → Int}
def mkP (d t : Int) : Nat → Int
  | 1 => d
  | 2 => t
  | _ => 0
abbrev UD : List Bool := [false, false, true, true]
theorem of_cut : OfR 4 sqL UD 0 [] := by
  unfold OfR
  rw [if_pos (by decide)]
  have a0 : NextR 4 sqL UD 0 0 [] := nextR_of [0, -1, -1, -1] (by decide) (by decide) (by decide)
  have a1 : NextR 4 sqL UD 0 1 [] := nextR_of [-1, 0, 1, 1] (by decide) (by decide) (by decide)
  have a2 : NextR 4 sqL UD 0 2 [] := nextR_of [-1, 1, 0, 2] (by decide) (by decide) (by decide)
  have a3 : NextR 4 sqL UD 0 3 [] := nextR_of [-1, 1, 2, 0] (by decide) (by decide) (by decide)
  exact (((OfL.nil (k := 0) rfl a0).nil (k := 1) a1).nil (k := 2) a2).nil (k := 3) a3
theorem known_k2 {la : Option Addr} {lc : Nat} (hL : Sl m n la lc (sqL.flatMap encL)) {Q : Value → Mem → Nat → Prop} (hq : ∀ m' n', Q (.bool true) m' n') :
    W Try.prog { fn := fLaw14FibKnown, nt := 127, slots := [(1, .slice la 4 lc), (5, .bool true), (6, .bool true), (9, .bool true)], todo := pt Try.prog fLaw14FibKnown [1, 1, 1, 1, 1, 1, 1, 1, 0] } m n Q := by
  refine W_of1 mixed (cfg := xcfg) (fuel := 400) ?_
  rw [xLaw14FibKnownk2]
  refine memLet.mk fun m1 e1 => ?_
  have g1 : m1.get n = some (.cells none tApiLink 3 (([⟨0, 4, 1⟩] : List Lk).flatMap encL)) := by rw [e1]; simp [-Bool.exists_bool, Tr.get_set]; rfl
  have le1 : Le m n m1 (n + 1) := by rw [e1]; exact Le.new
  obtain ⟨m2, n2, le2, _, run2⟩ := fnew_bad (m := m1) (n := n + 1) (N := 4) (me := 0) (L := [⟨0, 4, 1⟩]) (lc := 1) (sl_lit g1 (by omega)) (by simp [-Bool.exists_bool]) (by decide)
  refine run2 _ ⟨_, _, rfl, Later.mk ?_⟩
  obtain ⟨m3, n3, le3, _, run3⟩ := fnew_range (N := 4) (me := 4) (L := sqL) ((hL.le le1).le le2) (by decide) (by omega)
  exact run3 _ ⟨_, _, rfl, Later.mk (awake_c ⟨_, rfl, Later.mk (condT rfl (condT rfl (condT rfl (condT rfl (condET rfl (hq _ _))))))⟩)⟩
theorem known_k1 {la : Option Addr} {lc : Nat} (hL : Sl m n la lc (sqL.flatMap encL)) (h : FibS m n0 n fb s mp 4 0 sqL rows ws) (hn : n0 ≤ n) (hf : Fs m n) (hla : ∀ b o s', la = some ⟨b, o, s'⟩ → b < n0) {Q : Value → Mem → Nat → Prop} (hq : ∀ m' n', Q (.bool true) m' n') :
    W Try.prog { fn := fLaw14FibKnown, nt := 127, slots := [(1, .slice la 4 lc), (3, pp fb), (5, .bool true), (6, .bool true)], todo := pt Try.prog fLaw14FibKnown [1, 1, 1, 1, 1, 1, 0] } m n Q := by
  refine W_of1 mixed (cfg := xcfg) (fuel := 400) ?_
  rw [xLaw14FibKnownk1]
  refine memLet.mk fun m1 e1 => ?_
  have le1 : Le m n m1 (n + 1) := by rw [e1]; exact Le.new
  have g1 : m1.get n = some (.cells none tInt 1 ([(0 : Int), 1].map vi)) := by rw [e1]; simp [-Bool.exists_bool, Tr.get_set]
  obtain ⟨m2, l2, u2, le2, fs2, run2⟩ := square_c (m := m1) (n := n + 1) (down := [0, 1]) (da := some ⟨n, 0, none⟩) (dl := 2) (dc := 2) rfl (sl_lit g1 (by omega)) (by simp [-Bool.exists_bool])
  refine run2 _ ⟨_, _, _, _, _, _, rfl, Later.mk ?_⟩
  have le12 := le1.trans le2
  have f2 : Fs m2 (n + 1 + 2) := fs2 (by rw [e1]; exact hf.set)
  have h2 := h.le le12
  have hs := h.hi.2.1
  obtain ⟨m3, n3, R, ws', u3, run3⟩ := update_c (U := UD) (ul := 4) (uc := 4) h2 f2 (by omega) (by omega) (by omega) rfl (sl_lit u2 (by omega)) rfl (fun o s' e => by cases e; omega)
  refine run3 _ ⟨_, rfl, Later.mk (condET rfl ?_)⟩
  obtain ⟨a4, m4, n4, ow4, le4, fs4, run4⟩ := reach_x u3.fib
  have hR : R = [] := by have := u3.of.uniq of_cut; simpa [-Bool.exists_bool] using this
  refine run4 _ ⟨_, _, _, rfl, Later.mk (condET (by rw [hR]; rfl) ⟨by omega, ?_⟩)⟩
  refine update_bad (u3.fib.le le4) (by decide) _ ⟨_, rfl, Later.mk ?_⟩
  refine known_k2 ?_ hq
  have hle3 := u3.le
  refine (hL.le le12).same (n' := n4) (m' := m4) (by have := le4.le; omega) fun b o s' e => ?_
  have hb := hla _ _ _ e
  have h1 := h.lo
  rw [le4.same b (by omega), u3.same b (by omega) (by omega) (by omega) (fun r hr => by have := h.wlo r hr; omega)]
theorem known_k0 {la : Option Addr} {lc : Nat} (hL : Sl m n la lc (sqL.flatMap encL)) (h : FibS m n0 n fb s mp 4 0 sqL rows ws) (hk : rows.map ERow.key = E1) (hfound : ∀ r ∈ rows, ∃ i, i < ws.length ∧ r.dst = lo i ∧ i < 32) (hn : n0 ≤ n) (hf : Fs m n) (hla : ∀ b o s', la = some ⟨b, o, s'⟩ → b < n0) {Q : Value → Mem → Nat → Prop} (hq : ∀ m' n', Q (.bool true) m' n') :
    W Try.prog { fn := fLaw14FibKnown, nt := 127, slots := [(1, .slice la 4 lc), (3, pp fb), (5, .bool true)], todo := pt Try.prog fLaw14FibKnown [1, 1, 1, 1, 1, 0] } m n Q := by
  refine W_of1 mixed (cfg := xcfg) (fuel := 400) ?_
  rw [xLaw14FibKnownk0]
  obtain ⟨m1, n1, le1, fs1, run1⟩ := refused_x (p := mkP (lo 0) 9) (want := 9) h hfound (fun link q e hr => by
    unfold FwR at hr
    rw [if_pos (by decide)] at hr; exact hr)
  refine loop_c (by omega) (by omega) ⟨_, rfl, Later.mk (run1 _ ⟨_, rfl, Later.mk (condT rfl ?_)⟩)⟩
  obtain ⟨m2, n2, le2, fs2, run2⟩ := refused_x (p := mkP (lo 2) 1) (want := 20) (h.le le1) hfound (fun link q e hr => by
    unfold FwR at hr
    rw [if_neg (by decide), if_pos (by decide)] at hr; exact hr)
  refine loop_c (by omega) (by omega) ⟨_, rfl, Later.mk (run2 _ ⟨_, rfl, Later.mk (condT rfl ?_)⟩)⟩
  obtain ⟨m3, n3, le3, fs3, run3⟩ := refused_x (p := mkP 16909060 9) (want := 13) ((h.le le1).le le2) hfound (fun link q e hr => by
    unfold FwR at hr
    rw [if_neg (by decide), if_neg (by decide), if_pos (fun r hr2 => by
      have h1 : r.key ∈ E1 := by rw [← hk]; exact List.mem_map_of_mem hr2
      have h2 : r.dst = lo 1 ∨ r.dst = lo 2 ∨ r.dst = lo 3 := by
        simp only [E1, ERow.key, List.mem_cons, Prod.mk.injEq, List.not_mem_nil, or_false] at h1
        rcases h1 with h | h | h
        · exact .inl h.1
        · exact .inr (.inl h.1)
        · exact .inr (.inr h.1)
      show r.dst ≠ 16909060
      unfold lo at h2
      omega)] at hr; exact hr)
  refine run3 _ ⟨_, rfl, Later.mk ?_⟩
  have le13 := (le1.trans le2).trans le3
  exact known_k1 (hL.le le13) (h.le le13) (by have := le13.le; omega) (fs3 (fs2 (fs1 hf))) hla hq
theorem known_run (hf : Fs m n) {Q : Value → Mem → Nat → Prop} (hq : ∀ m' n', Q (.bool true) m' n') : Wc Try.prog fLaw14FibKnown [] m n Q := by
  refine Wc_of mixed (cfg := xcfg) (fuel := 400) ?_
  rw [xLaw14FibKnown]
  obtain ⟨m1, l1, u1, le1, fs1, run1⟩ := square_c (m := m) (n := n) (down := []) (da := none) (dl := 0) (dc := 0) rfl Sl.nil (by simp [-Bool.exists_bool])
  refine run1 _ ⟨_, _, _, _, _, _, rfl, Later.mk ?_⟩
  have hL : Sl m1 (n + 2) (some ⟨n, 0, none⟩) 4 (sqL.flatMap encL) := sl_lit l1 (by omega)
  have hU : Sl m1 (n + 2) (some ⟨n + 1, 0, none⟩) 4 (UT.map Value.bool) := sl_lit u1 (by omega)
  obtain ⟨m2, n2, fb, s, mp, fib2, le2, fs2, run2⟩ := fnew_c (N := 4) (me := 0) (L := sqL) hL (by decide) (by omega) (by omega)
  refine run2 _ ⟨_, _, rfl, Later.mk (condNF rfl (condF rfl ?_))⟩
  obtain ⟨a3, m3, n3, ow3, le3, fs3, run3⟩ := reach_x fib2
  refine run3 _ ⟨_, _, _, rfl, Later.mk (condET rfl (loop_c (by omega) (by omega) ⟨_, rfl, Later.mk ?_⟩))⟩
  obtain ⟨m4, n4, le4, fs4, run4⟩ := refused_x (p := mkP (lo 1) 9) (want := 13) (fib2.le le3) (fun _ h => nomatch h) (fun link q e hr => by
    unfold FwR at hr
    rw [if_neg (by decide), if_neg (by decide), if_pos (fun _ h => nomatch h)] at hr; exact hr)
  refine run4 _ ⟨_, rfl, Later.mk (condT rfl ?_)⟩
  have le24 := (le2.trans le3).trans le4
  have fib4 := (fib2.le le3).le le4
  have f4 : Fs m4 n4 := fs4 (fs3 (fs2 (fs1 hf)))
  have hlo := fib2.lo
  have l24 := le24.le
  obtain ⟨m5, n5, R, ws, u5, run5⟩ := update_c (U := UT) (ul := 4) fib4 f4 (by omega) (by omega) (by omega) rfl (hU.le le24) rfl (fun o s' e => by cases e; omega)
  refine run5 _ ⟨_, rfl, Later.mk (condET rfl ?_)⟩
  have hk := u5.of.uniq of_one
  have hlen : R.length = 3 := by have := congrArg List.length hk; simpa [-Bool.exists_bool, E1] using this
  obtain ⟨a6, m6, n6, ow6, le6, fs6, run6⟩ := reach_x u5.fib
  refine run6 _ ⟨_, _, _, rfl, Later.mk (loop_c (by omega) (by omega) ⟨_, rfl, Later.mk (loop_c (by omega) (by omega) ⟨_, rfl, Later.mk (loop_c (by omega) (by omega) ⟨_, rfl, Later.mk (memLet.mk fun m7 e7 => ?_)⟩)⟩)⟩)⟩
  have le7 : Le m6 n6 m7 (n6 + 1) := by rw [e7]; exact Le.new
  have g7 : m7.get n6 = some (.cells none tApiIP 1 (([lo 1, lo 2, lo 3] : List Int).map vu)) := by rw [e7]; simp [-Bool.exists_bool, Tr.get_set]
  have hd : R.map ERow.dst = [lo 1, lo 2, lo 3] := by
    have : R.map ERow.dst = (R.map ERow.key).map Prod.fst := by rw [List.map_map]; rfl
    rw [this, hk]; rfl
  refine sameip_c (A := R.map ERow.dst) (B := [lo 1, lo 2, lo 3]) (by simp [-Bool.exists_bool]) rfl (ow6.sl.le le7) (sl_lit g7 (by omega)) (by simp; omega) ⟨_, rfl, Later.mk (condT (decide_eq_true hd) (loop_c (by omega) (by omega) ⟨_, rfl, Later.mk ?_⟩))⟩
  have fib7 := (u5.fib.le le6).le le7
  obtain ⟨a8, m8, n8, ow8, _, le8, fs8, run8⟩ := lookup_x fib7 (lo 1)
  refine run8 _ ⟨_, _, _, rfl, Later.mk (memLet.mk fun m9 e9 => ?_)⟩
  have le9 : Le m8 n8 m9 (n8 + 1) := by rw [e9]; exact Le.new
  have g9 : m9.get n8 = some (.cells none tInt 1 (([0, 1] : List Int).map vi)) := by rw [e9]; simp [-Bool.exists_bool, Tr.get_set]
  have hX : lookP R (lo 1) = [0, 1] := by rw [lookP_key, hk]; decide
  refine same_c (A := lookP R (lo 1)) (B := [0, 1]) rfl rfl (ow8.sl.le le9) (sl_lit g9 (by omega)) (by rw [hX]; simp [-Bool.exists_bool]) ⟨_, rfl, Later.mk ?_⟩
  rw [decide_eq_true hX]
  have le59 := ((le6.trans le7).trans le8).trans le9
  have l59 := le59.le
  have l45 := u5.le
  refine known_k0 ?_ ((fib7.le le8).le le9) hk (u5.of.found (by omega) (by rw [u5.len]; decide)) (by omega) ?_ (fun b o s' e => by cases e; omega) hq
  · refine (hL.le le24).same (by omega) fun b o s' e => ?_
    cases e
    rw [le59.same _ (by omega), u5.same _ (by omega) (by omega) (by omega) (fun _ h => nomatch h)]
  · have : Fs m7 (n6 + 1) := by rw [e7]; exact (fs6 u5.fs).set
    rw [e9]; exact (fs8 this).set
theorem known_c {Q : Value → Mem → Nat → Prop} (hq : Q (.bool true) m n) : Wc Try.prog fLaw14FibKnown [] m n Q :=
  Wc.closed (R := fun v => v = .bool true) rfl (known_run (m := .leaf) (n := 0) (fun i _ => by simp [-Bool.exists_bool, Tr.get]) fun _ _ => ⟨rfl, rfl⟩) fun v hv => by subst hv; exact hq
end
end Go.Proofs.Ytiomjekkmjinbaa

set_option maxRecDepth 100000
namespace Go.Proofs.Ytiomjekkmjinbaa
open Go Go.Ab Spf
section
variable {m m' m0 : Mem} {n n' n0 fb s mp k b : Nat} {N me y : Int} {L : List Lk} {U : List Bool} {rows : List ERow} {ws : List WR}
/-- A table depends on the blocks between its bounds alone. -/
theorem FibS.range (h : FibS m n0 n fb s mp N me L rows ws) (same : ∀ i, n0 ≤ i → i < n → m'.get i = m.get i) : FibS m' n0 n fb s mp N me L rows ws := by
  obtain ⟨h1, h2, h3⟩ := h.hi
  obtain ⟨q1, q2, q3⟩ := h.lo
  obtain ⟨la, ea, g1, g2, g3, g4⟩ := h.gs
  have owk : ∀ {T sz l c : Nat} {a : Option Addr} {cs : List Value}, Ow m n0 n T sz a l c cs → Ow m' n0 n T sz a l c cs := fun ho => ho.same (Nat.le_refl _) fun b o s' e => same b (ho.bnd e).1 (ho.bnd e).2
  have sk : ∀ r ∈ ws, m'.get r.s = m.get r.s := fun r hr => same _ (h.wlo r hr).2.1 (wb_lt h hr).2.1
  refine ⟨(same _ q1 h1).trans h.gf, ⟨la, ea, (same _ q2 h2).trans g1, owk g2, owk g3, fun r hr x hx => g4 r hr x (hx.of (sk r hr))⟩, by rw [same _ q3 h3]; exact h.gm, fun r hr => owk (h.ents r hr), h.many, h.short, h.asc, fun r hr => ⟨?_, (h.whl r hr).2⟩, h.node, h.lo, h.hi, fun r hr => ?_, fun i j hi hj hne => ?_, h.esep⟩
  · have hw := (h.whl r hr).1
    obtain ⟨w1, w2, w3, w4⟩ := h.wlo r hr
    obtain ⟨ma, mc, o, sp, st', ow'⟩ := hw.st
    have ow2 : Ow m' 0 n tInt 1 (some ⟨r.b, o, sp⟩) r.B.length r.B.length (r.B.map vi) := ow'.same (Nat.le_refl _) fun b o s' e => by cases e; exact same _ w3 hw.cellb.1
    exact ⟨(same _ w1 hw.lw).trans hw.get, hw.lw, hw.ls, hw.pos, hw.big, ma, mc, o, sp, ⟨(sk r hr).trans st'.get, st'.mem.same (Nat.le_refl _) fun q o' s2 e => same q (w4 q (by subst e; exact ⟨_, _, _, _, _, st'.get⟩)) (st'.mem.lt e), ow2.sl, st'.lm, st'.lb⟩, ow2⟩
  · obtain ⟨a, b, c, d⟩ := h.wlo r hr
    exact ⟨a, b, c, fun x hx => d x (hx.of (sk r hr))⟩
  · obtain ⟨a, b, c, d⟩ := h.sep i j hi hj hne
    exact ⟨a, b, fun hx => c (hx.of (sk _ (List.getElem_mem hi))), fun hx => d (hx.of (sk _ (List.getElem_mem hi)))⟩
/-- A table of one node, with its bounds. -/
structure FT where
  fb : Nat
  s : Nat
  mp : Nat
  lo : Nat
  hi : Nat
  rows : List ERow
  ws : List WR
structure FTok (m : Mem) (n0 n : Nat) (N : Int) (L : List Lk) (U : List Bool) (i : Nat) (f : FT) : Prop where
  fib : FibS m f.lo f.hi f.fb f.s f.mp N i L f.rows f.ws
  of : OfR N L U i (f.rows.map ERow.key)
  val : ∀ j (h : j < f.ws.length), j < N.toNat → (f.ws[j].M, f.ws[j].B) = (Sp.setF ((lookP f.rows (lo j)).take 64) [] (List.replicate 64 (-1))).2
  len : f.ws.length = N.toNat
  blo : n0 ≤ f.lo ∧ f.lo ≤ f.hi
  bhi : f.hi ≤ n
def TabS (m : Mem) (n0 n : Nat) (N : Int) (L : List Lk) (U : List Bool) (fs : List FT) : Prop := ∀ i (h : i < fs.length), FTok m n0 n N L U i fs[i]
theorem FTok.frame {i : Nat} {f : FT} (h : FTok m n0 n N L U i f) (k : n ≤ n') (same : ∀ q, f.lo ≤ q → q < f.hi → m'.get q = m.get q) : FTok m' n0 n' N L U i f :=
  ⟨h.fib.range same, h.of, h.val, h.len, h.blo, by have := h.bhi; omega⟩
theorem ptrOk : elemOk Try.prog tLPfibFib tPfibFib 1 = true := by kernel_rfl
theorem tabs_loop {m0 : Mem} {n0 x : Nat} {la ua : Option Addr} {lc uc : Nat} (hv : validP N L L.length [0] = true) (hul : U.length = L.length) (hL : Sl m0 n0 la lc (L.flatMap encL)) (hU : Sl m0 n0 ua uc (U.map Value.bool)) (hx : m0.get x = some (.cells none tLaw14Net 3 [vi N, .slice la L.length lc, .slice ua U.length uc])) (lx : x < n0) :
    ∀ (k : Nat) (fs : List FT) (m : Mem) (n : Nat) (oa : Option Addr), (fs.length : Int) + k = N → TabS m n0 n N L U fs → Ow m n0 n tPfibFib 1 oa fs.length fs.length (fs.map fun f => pp f.fb) → (∀ f ∈ fs, ∀ b o s', oa = some ⟨b, o, s'⟩ → b < f.lo ∨ f.hi ≤ b) → Le m0 n0 m n → Fs m n →
    ∃ m' n' a' fs', TabS m' n0 n' N L U fs' ∧ (fs'.length : Int) = N ∧ Ow m' n0 n' tPfibFib 1 a' fs'.length fs'.length (fs'.map fun f => pp f.fb) ∧ (∀ f ∈ fs', ∀ b o s', a' = some ⟨b, o, s'⟩ → b < f.lo ∨ f.hi ≤ b) ∧ Le m0 n0 m' n' ∧ Fs m' n' ∧ ∀ Q : Value → Mem → Nat → Prop, Q (.slice a' fs'.length fs'.length) m' n' →
      W Try.prog { fn := fLaw14tables, nt := 53, slots := [(1, pp x), (3, .slice oa fs.length fs.length), (4, vi fs.length)], todo := pt Try.prog fLaw14tables [1, 1, 1, 0, 1, 0, 0] } m n Q := by
  obtain ⟨hll, hN1, hN2⟩ := valid_len0 hv
  intro k
  induction k with
  | zero =>
    intro fs m n oa h ht how hsep hle hf
    refine ⟨m, n, oa, fs, ht, by omega, how, hsep, hle, hf, fun Q hq => ?_⟩
    have gx := (hle.same x lx).trans hx
    refine W_of mixed (cfg := xcfg) (fuel := 400) ?_
    rw [xLaw14tablesk0]
    exact ⟨isC_of gx, _, rd_of gx rfl, condDF (by omega) hq⟩
  | succ k ih =>
    intro fs m n oa h ht how hsep hle hf
    have h0 := hle.le
    obtain ⟨m1, n1, fb, s, mp, fib1, le1, fs1, run1⟩ := fnew_c (N := N) (me := (fs.length : Int)) (L := L) (hL.le hle) hv (by omega) (by omega)
    have l1 := le1.le
    have hlo := fib1.lo
    obtain ⟨m2, n2, R, ws, u2, run2⟩ := update_c (U := U) (ul := U.length) fib1 (fs1 hf) le1.le (by omega) (by omega) rfl ((hU.le hle).le le1) hul (fun o s' e => by
      have := (hU.le hle).lt e
      omega)
    have l2 := u2.le
    have le2 : Le m n m2 n2 := ⟨by omega, fun i hi => by rw [u2.same i (by omega) (by omega) (by omega) (fun _ h => nomatch h)]; exact le1.same i hi⟩
    generalize e3 : m2.set n2 (.cells none tPfibFib 1 [pp fb]) = m3
    have le3 : Le m n m3 (n2 + 1) := ⟨by omega, fun i hi => by rw [← e3, Tr.get_set, if_neg (by omega)]; exact le2.same i hi⟩
    have hsc : sliceCells m3 1 1 (.slice (some ⟨n2, 0, none⟩) 1 1) = some [pp fb] := one_cell (T := tPfibFib) (sz := 1) (by rw [← e3]; simp [-Bool.exists_bool, Tr.get_set])
    have how3 := how.le le3
    have hfl : fs.length ≤ 1000 := by omega
    obtain ⟨a5, m5, n5, r1, r2, r3, r4, r5, r6⟩ := how3.append (t := tLPfibFib) (k := 1) ptrOk hsc (by simp [-Bool.exists_bool, cellOk]) (by simp [-Bool.exists_bool]) (by omega) (by omega)
    have el : (fs ++ [(⟨fb, s, mp, n, n2, R, ws⟩ : FT)]).length = fs.length + 1 := by simp [-Bool.exists_bool]
    have ht5 : TabS m5 n0 n5 N L U (fs ++ [⟨fb, s, mp, n, n2, R, ws⟩]) := fun i hi => by
      rw [List.getElem_append]
      split
      · rename_i hi'
        have hti := ht i hi'
        refine hti.frame (by omega) fun q h1 h2 => ?_
        have hb := hti.bhi
        rw [r5 q (by omega) (fun b o s' e => by rcases hsep _ (List.getElem_mem hi') b o s' e with h | h <;> omega)]
        exact le3.same q (by omega)
      · have hi2 : i = fs.length := by simp [-Bool.exists_bool] at hi; omega
        subst hi2
        simp only [List.getElem_singleton]
        have hob : ∀ q, n ≤ q → q < n2 → m5.get q = m2.get q := fun q h1 h2 => by
          rw [r5 q (by omega) (fun b o s' e => by have := (how.bnd e).2; omega), ← e3, Tr.get_set, if_neg (by omega)]
        refine ⟨u2.fib.range hob, u2.of, fun j hj hj2 => ?_, by have := u2.len; simp only at this ⊢; simpa [-Bool.exists_bool] using this, by simp only; omega, by simp only; omega⟩
        have := u2.val j hj hj2
        simpa [-Bool.exists_bool, oldMB] using this
    obtain ⟨m', n', a', fs', s1, s2, s3, s4, s5, s6, run⟩ := ih (fs ++ [⟨fb, s, mp, n, n2, R, ws⟩]) m5 n5 a5 (by rw [el]; omega) ht5 (by rw [el]; simpa [-Bool.exists_bool] using r2) (fun f hf' b o s' e => by
      rcases r4 b o s' e with ⟨o2, s2, e2⟩ | hb
      · rcases List.mem_append.1 hf' with h | h
        · exact hsep f h b o2 s2 e2
        · rw [List.mem_singleton.1 h]; left; exact (how.bnd e2).2
      · right
        rcases List.mem_append.1 hf' with h | h
        · obtain ⟨i, hi, rfl⟩ := List.getElem_of_mem h
          have := (ht i hi).bhi; omega
        · rw [List.mem_singleton.1 h]; simp only; omega) ⟨by omega, fun q hq => by rw [r5 q (by omega) (fun b o s' e => by have := (how.bnd e).1; omega)]; exact (le3.same q (by omega)).trans (hle.same q hq)⟩ (r6 fun i hi => by rw [← e3, Tr.get_set, if_neg (by omega)]; exact u2.fs i (by omega))
    refine ⟨m', n', a', fs', s1, s2, s3, s4, s5, s6, fun Q hq => ?_⟩
    have fin := run Q hq
    rw [el, ← wrapN (k := fs.length) (by omega)] at fin
    have gx := (hle.same x lx).trans hx
    have gx1 := (le1.same x (by omega)).trans gx
    refine W_of mixed (cfg := xcfg) (fuel := 400) ?_
    rw [xLaw14tablesk0]
    refine ⟨isC_of gx, _, rd_of gx rfl, condDT (by omega) ⟨isC_of gx, _, rd_of gx rfl, isC_of gx, _, _, _, rd_of gx rfl, run1 _ ⟨_, _, rfl, Later.mk (condNF rfl (condF rfl ⟨isC_of gx1, _, _, _, rd_of gx1 rfl, run2 _ ⟨_, rfl, Later.mk (condNF rfl (memLet.mk fun mm e => ?_))⟩⟩))⟩⟩⟩
    have e : mm = m3 := e.trans e3
    subst e
    exact ⟨_, _, _, _, _, r1, fin⟩
end
end Go.Proofs.Ytiomjekkmjinbaa

set_option maxRecDepth 100000
namespace Go.Proofs.Ytiomjekkmjinbaa
open Go Go.Ab Spf
section
variable {m m' m0 : Mem} {n n' n0 fb s mp k b : Nat} {N me y f : Int} {L : List Lk} {U : List Bool} {rows : List ERow} {ws : List WR}
theorem tabs_c {la ua : Option Addr} {ll lc ul uc : Nat} (hll : L.length = ll) (hul : U.length = ul) (hL : Sl m n la lc (L.flatMap encL)) (hU : Sl m n ua uc (U.map Value.bool)) (hf : Fs m n) :
    ∃ m' n' a fs, (fs = [] ∨ (validP N L L.length [0] = true ∧ U.length = L.length ∧ L.length ≤ 60 ∧ (fs.length : Int) = N ∧ TabS m' (n + 1) n' N L U fs)) ∧ Ow m' (n + 1) n' tPfibFib 1 a fs.length fs.length (fs.map fun f => pp f.fb) ∧ (∀ f ∈ fs, ∀ b o s', a = some ⟨b, o, s'⟩ → b < f.lo ∨ f.hi ≤ b) ∧ Le m n m' n' ∧ Fs m' n' ∧
      Exact Try.prog fLaw14tables [.agg ⟨[vi N, .slice la ll lc, .slice ua ul uc]⟩] m n (.slice a fs.length fs.length) m' n' := by
  subst hll; subst hul
  generalize e1 : m.set n (.cells none tLaw14Net 3 [vi N, .slice la L.length lc, .slice ua U.length uc]) = m1
  have le1 : Le m n m1 (n + 1) := by rw [← e1]; exact Le.new
  have g1 : m1.get n = some (.cells none tLaw14Net 3 [vi N, .slice la L.length lc, .slice ua U.length uc]) := by rw [← e1]; simp [-Bool.exists_bool, Tr.get_set]
  have f1 : Fs m1 (n + 1) := by rw [← e1]; exact hf.set
  by_cases h1 : (L.length : Int) > 60
  · refine ⟨m1, n + 1, none, [], .inl rfl, Ow.nil, (fun _ h => nomatch h), le1, f1, fun Q hq => ?_⟩
    refine Wc_of mixed (cfg := xcfg) (fuel := 400) ?_
    rw [xLaw14tables]
    refine memLet.mk fun mm e => ?_
    have e : mm = m1 := e.trans e1
    subst e
    exact ⟨isC_of g1, _, _, _, rd_of g1 rfl, condDT h1 hq⟩
  by_cases h2 : U.length = L.length
  · have enter : ∀ {Q : Value → Mem → Nat → Prop}, W Try.prog { fn := fLaw14tables, nt := 53, slots := [(1, pp n), (3, .slice none 0 0), (4, vi 0)], todo := pt Try.prog fLaw14tables [1, 1, 1, 0, 1, 0, 0] } m1 (n + 1) Q → Wc Try.prog fLaw14tables [.agg ⟨[vi N, .slice la L.length lc, .slice ua U.length uc]⟩] m n Q := fun {Q} hq => by
      refine Wc_of mixed (cfg := xcfg) (fuel := 400) ?_
      rw [xLaw14tables]
      refine memLet.mk fun mm e => ?_
      have e : mm = m1 := e.trans e1
      subst e
      exact ⟨isC_of g1, _, _, _, rd_of g1 rfl, condDF h1 ⟨isC_of g1, _, _, _, rd_of g1 rfl, isC_of g1, _, _, _, rd_of g1 rfl, condNF (by omega) hq⟩⟩
    cases hv : validP N L L.length [0] with
    | true =>
      obtain ⟨hll, hN1, hN2⟩ := valid_len0 hv
      obtain ⟨m', n', a', fs', s1, s2, s3, s4, s5, s6, run⟩ := tabs_loop (x := n) (N := N) hv h2 (hL.le le1) (hU.le le1) g1 (by omega) N.toNat [] m1 (n + 1) none (by simp; omega) (fun i hi => by simp [-Bool.exists_bool] at hi) Ow.nil (fun _ h => nomatch h) Le.refl f1
      exact ⟨m', n', a', fs', .inr ⟨rfl, h2, by omega, s2, s1⟩, s3, s4, le1.trans s5, s6, fun Q hq => enter (run Q hq)⟩
    | false =>
      by_cases hN : (0 : Int) < N
      · obtain ⟨m2, n2, le2, fs2, run2⟩ := fnew_bad (m := m1) (n := n + 1) (N := N) (me := 0) (L := L) (hL.le le1) (by omega) hv
        refine ⟨m2, n2, none, [], .inl rfl, Ow.nil, (fun _ h => nomatch h), le1.trans le2, fs2 f1, fun Q hq => enter ?_⟩
        refine W_of mixed (cfg := xcfg) (fuel := 400) ?_
        rw [xLaw14tablesk0]
        exact ⟨isC_of g1, _, rd_of g1 rfl, condDT hN ⟨isC_of g1, _, rd_of g1 rfl, isC_of g1, _, _, _, rd_of g1 rfl, run2 _ ⟨_, _, rfl, Later.mk (condNT (by decide) hq)⟩⟩⟩
      · refine ⟨m1, n + 1, none, [], .inl rfl, Ow.nil, (fun _ h => nomatch h), le1, f1, fun Q hq => enter ?_⟩
        refine W_of mixed (cfg := xcfg) (fuel := 400) ?_
        rw [xLaw14tablesk0]
        exact ⟨isC_of g1, _, rd_of g1 rfl, condDF hN hq⟩
  · refine ⟨m1, n + 1, none, [], .inl rfl, Ow.nil, (fun _ h => nomatch h), le1, f1, fun Q hq => ?_⟩
    refine Wc_of mixed (cfg := xcfg) (fuel := 400) ?_
    rw [xLaw14tables]
    refine memLet.mk fun mm e => ?_
    have e : mm = m1 := e.trans e1
    subst e
    exact ⟨isC_of g1, _, _, _, rd_of g1 rfl, condDF h1 ⟨isC_of g1, _, _, _, rd_of g1 rfl, isC_of g1, _, _, _, rd_of g1 rfl, condNT (by omega) hq⟩⟩
/-- What the entries hold for a node. -/
theorem lookK_app {E F : List (Int × List Int)} {y : Int} (h : ∀ e ∈ F, e.1 ≠ y) : lookK (E ++ F) y = lookK E y := by
  unfold lookK
  rw [List.find?_append]
  cases E.find? (fun r => decide (r.1 = y)) with
  | some r => rfl
  | none =>
    have : F.find? (fun r => decide (r.1 = y)) = none := by
      rw [List.find?_eq_none]; intro e he; simpa [-Bool.exists_bool] using h e he
    rw [this]; rfl
theorem lookK_none {E : List (Int × List Int)} {y : Int} (h : ∀ e ∈ E, e.1 ≠ y) : lookK E y = [] := by
  unfold lookK
  have : E.find? (fun r => decide (r.1 = y)) = none := by
    rw [List.find?_eq_none]; intro e he; simpa [-Bool.exists_bool] using h e he
  rw [this]
theorem OfL.look : ∀ {k : Nat} {E : List (Int × List Int)}, OfL N L U f k E → ∀ {t : Nat} {D : List Int}, t < k → NextR N L U f t D → lookK E (lo t) = D
  | 0, _, _, _, _, h, _ => by omega
  | k + 1, _, ⟨E, C, h1, h2, h3⟩, t, D, ht, hD => by
    have hne : ∀ e ∈ E, e.1 < lo k := h1.asc.2
    rcases Nat.lt_or_ge t k with hlt | hge
    · have := h1.look hlt hD
      rw [h3]
      split
      · exact this
      · rw [lookK_app (fun e he => by rw [List.mem_singleton.1 he]; unfold lo; simp only; omega)]; exact this
    · have : t = k := by omega
      subst this
      have hc : C = D := h2.uniq hD
      subst hc
      have hn : lookK E (lo t) = [] := lookK_none fun e he => by have := hne e he; omega
      rw [h3]
      split
      · rename_i h; rw [hn, h]
      · unfold lookK at hn ⊢
        rw [List.find?_append]
        cases hfd : E.find? (fun r => decide (r.1 = lo (t : Int))) with
        | some r =>
          have := List.mem_of_find?_eq_some hfd
          have h5 := List.find?_some hfd
          simp only [decide_eq_true_eq] at h5
          have := hne r this; omega
        | none => simp [-Bool.exists_bool]
end
end Go.Proofs.Ytiomjekkmjinbaa

set_option maxRecDepth 100000
namespace Go.Proofs.Ytiomjekkmjinbaa
open Go Go.Ab Spf
section
variable {m m' m0 : Mem} {n n' n0 fb s mp k b x : Nat} {N me y f : Int} {L : List Lk} {U : List Bool} {rows : List ERow} {ws : List WR}
theorem hasip_loop {X : List Int} {xa : Option Addr} {xc : Nat} {v : Int} (hx : Sl m n xa xc (X.map vu)) (hl : X.length ≤ 1000) {Q : Value → Mem → Nat → Prop} : ∀ l pre, X = pre ++ l → Q (.bool (l.contains v)) m n →
    W Try.prog { fn := fKitHasapiIP, nt := 18, slots := [(0, .slice xa X.length xc), (1, vu v), (5, .int .i64 pre.length)], todo := pt Try.prog fKitHasapiIP [1, 0, 1, 0, 0] } m n Q
  | [], pre, h, hq => by
    refine W_of mixed (cfg := xcfg) (fuel := 400) ?_
    rw [xKitHasapiIPk0]
    exact condDF (by simp [-Bool.exists_bool, h]) hq
  | y :: l, pre, h, hq => by
    have hx' := hx
    rw [map_flat X] at hx'
    refine W_of mixed (cfg := xcfg) (fuel := 400) ?_
    rw [xKitHasapiIPk0]
    have hlt : pre.length < X.length := by simp [-Bool.exists_bool, h]
    have hy : X[pre.length] = y := by simp [-Bool.exists_bool, h]
    have hlen : (((pre ++ [y]).length : Nat) : Int) = ((pre.length + 1 : Nat) : Int) := by simp [-Bool.exists_bool]
    refine condDT (by omega) (hx'.ldv (sz := 1) (fun _ => rfl) hlt (by omega) fun b o s' _ r _ => ⟨y, by have := r 0 _ rfl; rw [hy] at this; simpa [-Bool.exists_bool] using this, ?_⟩)
    refine condE (fun e => ?_) fun e => ?_
    · have : (y :: l).contains v = true := by simp [-Bool.exists_bool, e]
      rw [this] at hq; exact hq
    · have nxt := hasip_loop hx hl (v := v) (Q := Q) l (pre ++ [y]) (by simp [-Bool.exists_bool, h]) (by
        have : (y :: l).contains v = l.contains v := by simp [-Bool.exists_bool, Ne.symm e]
        rw [this] at hq; exact hq)
      rw [hlen, ← wrapN (k := pre.length) (by omega)] at nxt
      exact nxt
theorem hasip_c {X : List Int} {xa : Option Addr} {xl xc : Nat} {v : Int} (e : X.length = xl) (hx : Sl m n xa xc (X.map vu)) (hl : X.length ≤ 1000) {Q : Value → Mem → Nat → Prop} (hq : Q (.bool (X.contains v)) m n) : Wc Try.prog fKitHasapiIP [.slice xa xl xc, vu v] m n Q := by
  subst e
  refine Wc_of mixed (cfg := xcfg) (fuel := 400) ?_
  rw [xKitHasapiIP]
  exact hasip_loop hx hl X [] rfl hq
theorem ptr_at {fs : List FT} {a : Option Addr} {c i : Nat} (h : Sl m n a c (fs.map fun f => pp f.fb)) (hi : i < fs.length) : ∃ b o s', a = some ⟨b, o, s'⟩ ∧ b < n ∧ liveAt m b = true ∧ (s' ≠ none → 0 < c) ∧ rd m b (offOf o s' + ((i : Nat) : Int).toNat * 1) = some (pp fs[i].fb) := by
  rcases h with ⟨_, h⟩ | ⟨b, o, s', full, h1, h2, h3, h4, h5, h6⟩
  · have := congrArg List.length h; simp [-Bool.exists_bool] at this; subst this; simp [-Bool.exists_bool] at hi
  · have hne : (fs.map fun f => pp f.fb) ≠ [] := fun e => by have := congrArg List.length e; simp [-Bool.exists_bool] at this; subst this; simp [-Bool.exists_bool] at hi
    obtain ⟨q1, q2, _⟩ := h4 hne
    refine ⟨b, o, s', h1, h2, q1, q2, ?_⟩
    have hg : (fs.map fun f => pp f.fb)[i]? = some (pp fs[i].fb) := by simp [-Bool.exists_bool, hi]
    rw [← h6, List.getElem?_take_of_lt (by simpa [-Bool.exists_bool] using hi), List.getElem?_drop] at hg
    simp only [rd, h3, Int.toNat_natCast, Nat.mul_one]
    exact hg
/-- The destinations that are wanted. -/
def wantL (d : List Int) (t : Nat) : List Int := (List.range t).filterMap fun i => if gd d i > 0 then some (lo i) else none
theorem wantL_succ {d : List Int} {t : Nat} : wantL d (t + 1) = if gd d t > 0 then wantL d t ++ [lo t] else wantL d t := by
  unfold wantL
  rw [List.range_succ, List.filterMap_append]
  by_cases h : gd d t > 0 <;> simp [-Bool.exists_bool, h]
theorem wantL_len {d : List Int} {t : Nat} : (wantL d t).length ≤ t := by
  have := List.length_filterMap_le (fun i : Nat => if gd d i > 0 then some (lo i) else none) (List.range t)
  simpa [-Bool.exists_bool, wantL] using this
theorem OfL.want {me : Nat} {d : List Int} (hg : (mkG N L U).Ok) (hv : validP N L U.length [(me : Int)] = true) (hd : IsDist (mkG N L U) me d) : ∀ {k : Nat} {E : List (Int × List Int)}, (k : Int) ≤ N → OfL N L U me k E → E.map Prod.fst = wantL d k
  | 0, _, _, h => by rw [h]; rfl
  | k + 1, _, hk, ⟨E, D, h1, h2, h3⟩ => by
    have ih := OfL.want hg hv hd (by omega) h1
    have hvk : validP N L U.length [(me : Int), (k : Int)] = true := by
      rw [valid_two, hv, valid_at hv (j := k) (by omega)]; rfl
    unfold NextR at h2
    rw [if_pos hvk] at h2
    obtain ⟨e, he, rfl⟩ := h2
    have hsym := hd.sym hg he
    have iff : nextL (mkG N L U) e me ≠ [] ↔ gd d k > 0 := by
      by_cases hmk : me = k
      · subst hmk
        constructor
        · intro h; exact (h (next_end hg he)).elim
        · intro h
          have : gd d me = 0 := hd.src
          omega
      · have h5 := next_ne hg he (v := me) hmk
        simp only [Int.toNat_natCast] at *
        rw [h5, ← hsym]
        constructor
        · intro h
          rcases Int.lt_or_eq_of_le h with h | h
          · exact h
          · rcases hd.back k (by omega) with h6 | ⟨i, z, c, ⟨l, h7, _, h8⟩, h9, h10⟩
            · exact (hmk h6.symm).elim
            · have := hg.at h7
              omega
        · omega
    simp only [Int.toNat_natCast] at h3
    rw [h3, wantL_succ]
    by_cases hc : gd d k > 0
    · rw [if_neg (iff.2 hc), if_pos hc, List.map_append, ih]; rfl
    · rw [if_pos (by by_cases h : nextL (mkG N L U) e me = []; exact h; exact (hc (iff.1 h)).elim), if_neg hc, ih]
end
end Go.Proofs.Ytiomjekkmjinbaa

set_option maxRecDepth 100000
namespace Go.Proofs.Ytiomjekkmjinbaa
open Go Go.Ab Spf
section
variable {m m' m0 : Mem} {n n' n0 fb s mp k b x : Nat} {N me y f : Int} {L : List Lk} {U : List Bool} {rows : List ERow} {ws : List WR}
noncomputable abbrev rchFr (other : Int) (i x : Nat) (aa : Option Addr) (al ac : Nat) (da : Option Addr) (dl dc : Nat) (wa : Option Addr) (wl : Nat) (t : Nat) : AFrame :=
  { fn := fLaw14FibReach, nt := 89, slots := [(1, vi i), (2, .int .u32 other), (3, pp x), (7, .bool true), (8, .slice aa al ac), (9, .slice da dl dc), (10, .slice wa wl wl), (11, vi t)], todo := pt Try.prog fLaw14FibReach [1, 1, 1, 1, 1, 1, 1, 0, 1, 0, 0] }
theorem rch_loop {m0 : Mem} {n0 i x nl : Nat} {other : Int} {la ua aa da : Option Addr} {lc uc ac dc : Nat} {fs : List FT} {d : List Int} (hN : N ≤ 32) (hfl : (fs.length : Int) = N) (hi : i < fs.length) (ht : FTok m0 nl n0 N L U i fs[i]) (ha : Sl m0 n0 aa ac (fs.map fun f => pp f.fb)) (hL : Sl m0 n0 la lc (L.flatMap encL)) (hU : Sl m0 n0 ua uc (U.map Value.bool))
    (hx : m0.get x = some (.cells none tLaw14Net 3 [vi N, .slice la L.length lc, .slice ua U.length uc])) (lx : x < n0) (sd : Sl m0 n0 da dc (d.map vi)) (hdl : d.length = N.toNat) (hof : OfL N L U i N.toNat (fs[i].rows.map ERow.key)) {Q : Value → Mem → Nat → Prop}
    (fin : ∀ m' n' wa, Le m0 n0 m' n' → Ow m' n0 n' tApiIP 1 wa (wantL d N.toNat).length (wantL d N.toNat).length ((wantL d N.toNat).map vu) → W Try.prog (rchFr other i x aa fs.length ac da d.length dc wa (wantL d N.toNat).length N.toNat) m' n' Q) :
    ∀ (k t : Nat) (m : Mem) (n : Nat) (wa : Option Addr), t + k = N.toNat → Le m0 n0 m n → Ow m n0 n tApiIP 1 wa (wantL d t).length (wantL d t).length ((wantL d t).map vu) → W Try.prog (rchFr other i x aa fs.length ac da d.length dc wa (wantL d t).length t) m n Q := by
  intro k
  induction k with
  | zero =>
    intro t m n wa h hle how
    have : t = N.toNat := by omega
    subst this
    exact fin m n wa hle how
  | succ k ih =>
    intro t m n wa h hle how
    have h0 := hle.le
    obtain ⟨b, o, s', rfl, hb1, hb2, hb3, hb4⟩ := ptr_at ha hi
    have gb : ∀ {m1 : Mem}, m1.get b = m0.get b → liveAt m1 b = true ∧ rd m1 b (offOf o s' + ((i : Nat) : Int).toNat * 1) = some (pp fs[i].fb) := fun e => ⟨by unfold liveAt at *; rw [e]; exact hb2, by unfold rd cellsOf at *; rw [e]; exact hb4⟩
    have hbm := gb (hle.same b hb1)
    have gx := (hle.same x lx).trans hx
    have htm := ht.bhi
    have fibm : FibS m fs[i].lo (n + 18) fs[i].fb fs[i].s fs[i].mp N i L fs[i].rows fs[i].ws := by
      have h1 := ht.fib.range (m' := m) (fun q h1 h2 => hle.same q (by omega))
      exact h1.le (Le.refl.up (by omega))
    obtain ⟨a1, m1, n1, ow1, _, le1, fs1, run1⟩ := lookup_x fibm (lo t)
    have hl1 := le1.le
    have gx1 := (le1.same x (by omega)).trans gx
    have le01 : Le m0 n0 m1 n1 := hle.trans ((Le.refl.up (by omega : n ≤ n + 18)).trans le1)
    obtain ⟨m2, n2, a2, D, hD, ow2, le2, fs2, run2⟩ := next_c (N := N) (f := (i : Int)) (t := (t : Int)) (ll := L.length) (ul := U.length) rfl rfl (hL.le le01) (hU.le le01)
    have hX : lookP fs[i].rows (lo t) = D := by rw [lookP_key]; exact hof.look (by omega) hD
    have hlX : (lookP fs[i].rows (lo t)).length ≤ 128 := lookP_len fibm
    have hl2 := le2.le
    have le02 := le01.trans le2
    have how2 : Ow m2 n0 n2 tApiIP 1 wa (wantL d t).length (wantL d t).length ((wantL d t).map vu) := how.le ((Le.refl.up (by omega : n ≤ n + 18)).trans (le1.trans le2))
    have go : (bif decide (gd d t > 0) then Wc Try.prog fLaw14loop [vi t] m2 n2 fun v61 m62 k63 => ∃ x64 : Int, v61 = .int .u32 x64 ∧ Later (memLet (m62.set k63 (.cells none tApiIP 1 [.int .u32 x64])) fun m65 => ∃ p66 k67 k68 m69 k70, appendA Try.prog m65 (k63 + 1) tLapiIP tLapiIP (.slice wa (wantL d t).length (wantL d t).length) (.slice (some ⟨k63, 0, none⟩) 1 1) = .val (.slice p66 k67 k68) m69 k70 ∧
        W Try.prog { fn := fLaw14FibReach, nt := 89, slots := [(1, vi i), (2, .int .u32 other), (3, pp x), (7, .bool true), (8, .slice (some ⟨b, o, s'⟩) fs.length ac), (9, .slice da d.length dc), (10, .slice p66 k67 k68), (11, vi ((t + 1 : Nat) : Int))], todo := pt Try.prog fLaw14FibReach [1, 1, 1, 1, 1, 1, 1, 0, 1, 0, 0] } m69 k70 Q)
        else W Try.prog (rchFr other i x (some ⟨b, o, s'⟩) fs.length ac da d.length dc wa (wantL d t).length (t + 1)) m2 n2 Q) := by
      by_cases hc : gd d t > 0
      · refine condDT hc (loop_c (by omega) (by omega) ⟨_, rfl, Later.mk (memLet.mk fun m3 e3 => ?_)⟩)
        have le3 : Le m2 n2 m3 (n2 + 1) := by rw [e3]; exact Le.new
        have hsc : sliceCells m3 1 1 (.slice (some ⟨n2, 0, none⟩) 1 1) = some [vu (lo t)] := one_cell (T := tApiIP) (sz := 1) (by rw [e3]; simp [-Bool.exists_bool, Tr.get_set])
        have hwl := wantL_len (d := d) (t := t)
        have l02 := le02.le
        obtain ⟨a5, m5, n5, r1, r2, r3, r4, r5, r6⟩ := (how2.le le3).append (t := tLapiIP) (k := 1) ipOk hsc (by simp [-Bool.exists_bool, cellOk]) (by simp [-Bool.exists_bool]) (by omega) (by omega)
        have hw1 : wantL d (t + 1) = wantL d t ++ [lo t] := by rw [wantL_succ, if_pos hc]
        have nxt := ih (t + 1) m5 n5 a5 (by omega) ⟨by omega, fun q hq => by rw [r5 q (by omega) (fun b o s e => by have := (how.bnd e).1; omega)]; exact (le02.trans le3).same q hq⟩ (by rw [hw1]; simpa [-Bool.exists_bool] using r2)
        rw [hw1, List.length_append, List.length_singleton] at nxt
        exact ⟨_, _, _, _, _, r1, nxt⟩
      · refine condDF hc ?_
        have hw1 : wantL d (t + 1) = wantL d t := by rw [wantL_succ, if_neg hc]
        have nxt := ih (t + 1) m2 n2 wa (by omega) le02 (by rw [hw1]; exact how2)
        rw [hw1] at nxt
        exact nxt
    refine W_of mixed (cfg := xcfg) (fuel := 400) ?_
    rw [xLaw14FibReachk0, wrapN (by omega)]
    refine condDT (by omega) ⟨⟨by omega, by omega, hbm.1, hb3⟩, _, hbm.2, _, _, _, loop_c (by omega) (by omega) ⟨rfl, rfl, rfl⟩, Later.mk ⟨_, _, _, _, _, run1 _ ⟨rfl, rfl, rfl⟩, Later.mk ⟨isC_of gx1, _, rd_of gx1 rfl, isC_of gx1, _, _, _, rd_of gx1 rfl, isC_of gx1, _, _, _, rd_of gx1 rfl, _, _, _, _, _, run2 _ ⟨rfl, rfl, rfl⟩, Later.mk
      ⟨_, _, _, same_c rfl rfl (ow1.sl.le le2) ow2.sl (by omega) ⟨rfl, rfl, rfl⟩, Later.mk ⟨⟨_, _, _, rd_of gx rfl, rfl⟩, ⟨_, _, _, rd_of gx rfl, rfl⟩, ⟨isC_of gx, rfl⟩, ⟨isC_of gx, rfl⟩, ⟨_, _, _, rd_of gx rfl, rfl⟩, ⟨_, _, _, rd_of gx rfl, rfl⟩, ⟨isC_of gx, rfl⟩, ⟨isC_of gx, rfl⟩, ⟨_, rd_of gx rfl, rfl⟩, ⟨_, rd_of gx rfl, rfl⟩, ⟨isC_of gx, rfl⟩, ⟨isC_of gx, rfl⟩, ⟨_, hbm.2, rfl⟩, ⟨⟨by omega, by omega, hbm.1, hb3⟩, rfl⟩, Nat.le_refl _, by omega, by omega, by omega, ?_⟩⟩⟩⟩⟩
    refine condF (by rw [decide_eq_true hX]; rfl) (ldx (sd.le le02) (by omega) (by omega) ?_)
    exact go
end
end Go.Proofs.Ytiomjekkmjinbaa

set_option maxRecDepth 100000
namespace Go.Proofs.Ytiomjekkmjinbaa
open Go Go.Ab Spf
section
variable {m m' m0 : Mem} {n n' n0 fb s mp k b x : Nat} {N me y f : Int} {L : List Lk} {U : List Bool} {rows : List ERow} {ws : List WR}
theorem look_has {R : List ERow} (h : ∀ r ∈ R, 0 < r.xs.length) (y : Int) : (decide (((lookP R y).length : Int) > 0) == (R.map ERow.dst).contains y) = true := by
  by_cases hy : ∃ r ∈ R, r.dst = y
  · obtain ⟨r, hr, hd⟩ := hy
    have h1 : (R.map ERow.dst).contains y = true := by rw [List.contains_iff_mem]; exact List.mem_map.2 ⟨r, hr, hd⟩
    have h2 : 0 < (lookP R y).length := by
      unfold lookP
      cases hfd : R.find? (fun r => decide (r.dst = y)) with
      | some q => exact h q (List.mem_of_find?_eq_some hfd)
      | none => have := List.find?_eq_none.1 hfd r hr; simp [-Bool.exists_bool, hd] at this
    rw [h1, decide_eq_true (by omega)]; rfl
  · have hn : ∀ r ∈ R, r.dst ≠ y := fun r hr e => hy ⟨r, hr, e⟩
    have h1 : (R.map ERow.dst).contains y = false := by
      rw [Bool.eq_false_iff, Ne, List.contains_iff_mem]
      intro hm
      obtain ⟨r, hr, e⟩ := List.mem_map.1 hm
      exact hn r hr e
    rw [lookP_none hn, h1]; rfl
theorem reach_law {la ua : Option Addr} {lc uc : Nat} {sf other : Int} (hL : Sl m n la lc (L.flatMap encL)) (hU : Sl m n ua uc (U.map Value.bool)) (hf : Fs m n) {Q : Value → Mem → Nat → Prop} (hq : ∀ m' n', Q (.bool true) m' n') :
    Wc Try.prog fLaw14FibReach [.agg ⟨[vi N, .slice la L.length lc, .slice ua U.length uc]⟩, vi sf, .int .u32 other] m n Q := by
  refine Wc_of mixed (cfg := xcfg) (fuel := 400) ?_
  rw [xLaw14FibReach]
  refine memLet.mk fun m0 e0 => known_c ⟨_, rfl, Later.mk ?_⟩
  have le0 : Le m n m0 (n + 1) := by rw [e0]; exact Le.new
  have g0 : m0.get n = some (.cells none tLaw14Net 3 [vi N, .slice la L.length lc, .slice ua U.length uc]) := by rw [e0]; simp [-Bool.exists_bool, Tr.get_set]
  obtain ⟨m1, n1, a, fs, hcase, owp, hsep, le1, f1, run1⟩ := tabs_c (N := N) rfl rfl (hL.le le0) (hU.le le0) (by rw [e0]; exact hf.set)
  refine ⟨_, _, _, _, _, _, _, rds_of g0, run1 _ ⟨_, _, _, rfl, Later.mk ?_⟩⟩
  rcases hcase with rfl | ⟨hv, hul, hll, hlen, ht⟩
  · exact condET rfl (hq _ _)
  obtain ⟨_, hN1, hN2⟩ := valid_len0 hv
  have gx := (le1.same n (by omega)).trans g0
  refine condEF (by omega) ⟨isC_of gx, _, rd_of gx rfl, pick_c (by omega) (by omega) ⟨_, rfl, Later.mk ?_⟩⟩
  obtain ⟨p1, p2⟩ := pickM_bnd (x := sf) (n := N) (by omega)
  obtain ⟨i, hi⟩ : ∃ i : Nat, pickM sf N = (i : Int) := ⟨(pickM sf N).toNat, by omega⟩
  rw [hi] at p1 p2 ⊢
  have hif : i < fs.length := by omega
  have hL1 := (hL.le le0).le le1
  have hU1 := (hU.le le0).le le1
  obtain ⟨m2, n2, da, d, hd, ow2, le2, fs2, run2⟩ := dist_c (N := N) (f := (i : Int)) (ll := L.length) (ul := U.length) rfl rfl hL1 hU1
  refine ⟨isC_of gx, _, rd_of gx rfl, isC_of gx, _, _, _, rd_of gx rfl, isC_of gx, _, _, _, rd_of gx rfl, run2 _ ⟨_, _, _, rfl, Later.mk ?_⟩⟩
  have hv0 : validP N L U.length [(0 : Int)] = true := by rw [hul]; exact hv
  have hvi : validP N L U.length [(i : Int)] = true := valid_at hv0 (by omega)
  obtain ⟨hg, _⟩ := valid_iff hvi
  unfold DistR at hd
  rw [if_pos hvi] at hd
  simp only [Int.toNat_natCast] at hd
  have hti := ht i hif
  have hof := hti.of
  unfold OfR at hof
  rw [if_pos hvi] at hof
  have l1 := le1.le
  have l2 := le2.le
  have ht2 : FTok m2 (n + 1 + 1) n2 N L U i fs[i] := hti.frame l2 fun q h1 h2 => le2.same q (by have := hti.bhi; omega)
  have gx2 := (le2.same n (by omega)).trans gx
  have ha2 := owp.sl.le le2
  have hlenD : d.length = N.toNat := hd.len
  have hwant : fs[i].rows.map ERow.dst = wantL d N.toNat := by
    have : fs[i].rows.map ERow.dst = (fs[i].rows.map ERow.key).map Prod.fst := by rw [List.map_map]; rfl
    rw [this]; exact OfL.want hg hvi hd (by omega) hof
  refine rch_loop (m0 := m2) (n0 := n2) (nl := n + 1 + 1) (other := other) hN2 hlen hif ht2 ha2 (hL1.le le2) (hU1.le le2) gx2 (by omega) ow2.sl hlenD hof (fun m3 n3 wa le3 oww => ?_) N.toNat 0 m2 n2 none (by omega) Le.refl Ow.nil
  have hwl := wantL_len (d := d) (t := N.toNat)
  obtain ⟨b, o, s', rfl, hb1, hb2, hb3, hb4⟩ := ptr_at ha2 hif
  have gb : ∀ {mm : Mem}, mm.get b = m2.get b → liveAt mm b = true ∧ rd mm b (offOf o s' + ((i : Nat) : Int).toNat * 1) = some (pp fs[i].fb) := fun e => ⟨by unfold liveAt at *; rw [e]; exact hb2, by unfold rd cellsOf at *; rw [e]; exact hb4⟩
  have l3 := le3.le
  have hbm := gb (le3.same b hb1)
  have hbh := ht2.bhi
  have fib3 : FibS m3 fs[i].lo n3 fs[i].fb fs[i].s fs[i].mp N i L fs[i].rows fs[i].ws := by
    have h1 := ht2.fib.range (m' := m3) (fun q h1 h2 => le3.same q (by omega))
    exact h1.le (Le.refl.up (by omega))
  obtain ⟨a4, m4, n4, ow4, le4, fs4, run4⟩ := reach_x fib3
  have hbm4 := gb ((le4.same b (by omega)).trans (le3.same b hb1))
  obtain ⟨a5, m5, n5, ow5, _, le5, fs5, run5⟩ := lookup_x (fib3.le le4) other
  refine W_of mixed (cfg := xcfg) (fuel := 400) ?_
  rw [xLaw14FibReachk0]
  refine condDF (by omega) (condT rfl ⟨⟨by omega, by omega, hbm.1, hb3⟩, _, hbm.2, run4 _ ⟨_, _, _, rfl, Later.mk ?_⟩⟩)
  refine sameip_c (A := fs[i].rows.map ERow.dst) (B := wantL d N.toNat) (by simp [-Bool.exists_bool]) rfl ow4.sl (oww.sl.le le4) (by rw [hwant]; omega) ⟨_, rfl, Later.mk (condT (decide_eq_true hwant) ⟨⟨by omega, by omega, hbm4.1, hb3⟩, _, hbm4.2, run5 _ ⟨_, _, _, rfl, Later.mk ?_⟩⟩)⟩
  refine hasip_c (X := wantL d N.toNat) rfl ((oww.sl.le le4).le le5) (by omega) ⟨_, rfl, Later.mk ?_⟩
  have := look_has (R := fs[i].rows) (fun r hr => (fib3.short r hr).1) other
  rw [hwant] at this
  rw [this]
  exact hq _ _
theorem fldNet14 : fieldTys Try.prog tLaw14Net = some [tInt, tLapiLink, tLbool] := by kernel_rfl
theorem net14 {m : Mem} {n : Nat} (hf : ∀ i, n ≤ i → m.get i = none) {v : Value} (h : TyV Try.prog m tLaw14Net v) : ∃ N la L lc ua U uc, v = .agg ⟨[vi N, .slice la (L : List Lk).length lc, .slice ua (U : List Bool).length uc]⟩ ∧ Sl m n la lc (L.flatMap encL) ∧ Sl m n ua uc (U.map Value.bool) := by
  obtain ⟨g, cs, rfl, h1⟩ := TyV.st fldNet14 h
  obtain ⟨g2, parts, rfl, hlen, hp⟩ := TyC.fields fldNet14 h1
  match parts, hlen with
  | [q0, q1, q2], _ =>
    obtain ⟨N, rfl, _⟩ := TyC.int undInt (hp 0 _ q0 rfl rfl)
    obtain ⟨la, L, lc, rfl, s1, _⟩ := links_of hf (hp 1 _ q1 rfl rfl)
    obtain ⟨ua, U, uc, rfl, s2, _⟩ := bools_of hf (hp 2 _ q2 rfl rfl)
    exact ⟨N, la, L, lc, ua, U, uc, rfl, s1, s2⟩
end
end Go.Proofs.Ytiomjekkmjinbaa

namespace Go.Proofs.Ytiomjekkmjinbaa
open Go Go.Ab Spf
set_option maxRecDepth 1000000 in
theorem undIP14 : Try.prog.underlying tApiIP = some (.int .u32) := by kernel_rfl
set_option maxRecDepth 1000000 in
theorem fibReach_main (m : Mem) (n : Nat) (ars : List Value) (hl : ars.length = ([63, 3, 45] : List TypeId).length) (ht : ∀ (j : Nat) t a, ([63, 3, 45] : List TypeId)[j]? = some t → ars[j]? = some a → TyV Try.prog m t a)
    (_ : ∀ i o, m.get i = some o → own o = false) (hfresh : ∀ i, n ≤ i → m.get i = none) : Wc Try.prog fLaw14FibReach ars m n fun v _ _ => v = .bool true := by
  match ars, hl with
  | [x, a, b], _ =>
    obtain ⟨N, la, L, lc, ua, U, uc, rfl, h1, h2⟩ := net14 hfresh (ht 0 63 x (by simp [-Bool.exists_bool]) (by simp [-Bool.exists_bool]))
    obtain ⟨a, rfl, _⟩ := TyV.int undInt (ht 1 3 a (by simp [-Bool.exists_bool]) (by simp [-Bool.exists_bool]))
    obtain ⟨b, rfl, _⟩ := TyV.int undIP14 (ht 2 45 b (by simp [-Bool.exists_bool]) (by simp [-Bool.exists_bool]))
    exact reach_law h1 h2 hfresh fun _ _ => rfl
end Go.Proofs.Ytiomjekkmjinbaa
