/- An evaluator made for the kernel: the frame's fields apart, regions by recursion on the list. Sound for W. -/
import Derived.Test.YtiomjekkmjinbaaAb25
namespace Go.Ab
open Go
set_option linter.unusedVariables false
noncomputable section

/-- The slots that are kept, each once. -/
def pruneK (keep : Option (List Nat)) (sl : Slots) : Slots :=
  match keep with
  | none => sl
  | some ks => @List.rec Nat (fun _ => Slots) [] (fun t _ ih => @Option.rec Value (fun _ => Slots) ih (fun v => (t, v) :: ih) (lkK sl t)) ks
theorem lk_pruneK {keep : Option (List Nat)} {sl : Slots} {s : Nat} {v : Value} (h : lk (pruneK keep sl) s = some v) : lk sl s = some v := by
  cases keep with
  | none => exact h
  | some ks =>
    simp only [pruneK] at h
    induction ks with
    | nil => simp [lk] at h
    | cons t ks ih =>
      simp only [lkK_eq] at h ih
      cases ht : lk sl t with
      | none => rw [ht] at h; exact ih h
      | some u =>
        rw [ht] at h
        simp only [lk] at h
        split at h
        · rename_i e; subst e; rw [ht]; exact h
        · exact ih h

def maxD (l : List (Option Tmp)) : Nat :=
  @List.rec (Option Tmp) (fun _ => Nat) 0 (fun d _ ih => @Option.rec Tmp (fun _ => Nat) ih (fun t => Nat.max (t + 1) ih) d) l
theorem maxD_ok {nt : Nat} : ∀ {l : List (Option Tmp)}, Nat.ble (maxD l) nt = true → ∀ d ∈ l, dstOk nt d = true
  | [], _, d, hd => by cases hd
  | none :: l, h, d, hd => by
    rcases List.mem_cons.1 hd with rfl | hd
    · rfl
    · exact maxD_ok (l := l) h d hd
  | some t :: l, h, d, hd => by
    have h' : Nat.ble (Nat.max (t + 1) (maxD l)) nt = true := h
    rw [Nat.ble_eq] at h'
    have hm : Nat.max (t + 1) (maxD l) = max (t + 1) (maxD l) := rfl
    rw [hm] at h'
    rcases List.mem_cons.1 hd with rfl | hd
    · simp only [dstOk, Nat.blt_eq]; omega
    · exact maxD_ok (l := l) (by rw [Nat.ble_eq]; omega) d hd

/-- A call, and what follows on its results. -/
def contK (P : Program) (call : AFrame → Mem → Nat → Res) (c : Option AFrame) (m : Mem) (n : Nat) (k : Value → Mem → Nat → Res) : Res :=
  match c with
  | some c => match call c m n with
    | none => none
    | some rs => bindAll rs k
  | none => none
def dfrK (round : Option Nat) (k : Res) : Res :=
  match round with
  | none => k
  | some _ => none
def effK (P : Program) (call : AFrame → Mem → Nat → Res) (round : Option Nat) (m : Mem) (n : Nat) (ds : List Deferred) (k : List Deferred → Value → Mem → Nat → Res) : Eff → Res
  | .val v m n => k ds v m n
  | .call f args => contK P call (enterA P f args .normal) m n (k ds)
  | .yield l args => contK P call (roundA m l args) m n (k ds)
  | .dfr d => dfrK round (k (d :: ds) undef m n)
  | .alts l => bindAll l (k ds)
  | .fail => none
def oneK (P : Program) (call : AFrame → Mem → Nat → Res) (round : Option Nat) (o : Oper) (sl : Slots) (ds : List Deferred) (m : Mem) (n : Nat) (k : List Deferred → Value → Mem → Nat → Res) : Option Bool → Res
  | none => none
  | some false => k ds undef m n
  | some true => effK P call round m n ds k (evOpX P m n sl o)

/-- A region in the text's order. -/
def regK (P : Program) (call : AFrame → Mem → Nat → Res) (ops : Array Oper) (round : Option Nat) (K : Slots → List Deferred → Mem → Nat → Res) : List Oper → Slots → List Deferred → Mem → Nat → Res
  | [], sl, ds, m, n => K sl ds m n
  | o :: os, sl, ds, m, n => oneK P call round o sl ds m n (fun ds v m n => regK P call ops round K os (putO sl o.dst v) ds m n) (wantK ops sl o)

/-- The steps that are rare. -/
def genK (P : Program) (ev : AFrame → Mem → Nat → Res) (fr : AFrame) (m : Mem) (n : Nat) : Res :=
  match stepA P (fun _ => none) fr m n with
  | .go fr m n => ev fr m n
  | .call c fr m n => match ev c m n with
    | none => none
    | some rs => bindAll rs fun v m n => ev (afterA c.kind fr v) m n
  | .alts l => bindFr l fun fr m n => ev fr m n
  | .draw _ _ _ _ => none
  | .ret v m n => some [(v, m, n)]
  | .fail => none

abbrev Ev := FuncId → Nat → Slots → List Item → List Deferred → Bool → CallKind → Option Nat → Mem → Nat → Res
def evF (ev : Ev) (fr : AFrame) (m : Mem) (n : Nat) : Res :=
  match fr with
  | ⟨a, b, c, d, e, g, h, i⟩ => ev a b c d e g h i m n

def endK (keep : FuncId → Option (List Nat)) (ops : Array Oper) (fn : FuncId) (sl : Slots) : Slots :=
  match Nat.ble 8 ops.size with
  | true => pruneK (keep fn) sl
  | false => sl
def drawK (keep : FuncId → Option (List Nat)) (ev : Ev) (fn : FuncId) (nt : Nat) (k : List Item) (ds : List Deferred) (kind : CallKind) (round : Option Nat) : Option (Slots × Mem × Nat) → Res
  | some (sl, m, n) => ev fn nt (pruneK (keep fn) sl) k ds false kind round m n
  | none => none
def regionK (P : Program) (keep : FuncId → Option (List Nat)) (ev : Ev) (fn : FuncId) (nt : Nat) (sl : Slots) (k : List Item) (ds : List Deferred) (kind : CallKind) (round : Option Nat) (m : Mem) (n : Nat) (ops : Array Oper) (draw : Bool) : Res :=
  match Nat.ble (maxD (dsts ops)) nt with
  | true => match draw with
    | true => drawK keep ev fn nt k ds kind round (drawAX P (evF ev) ops nt sl m n)
    | false => regK P (evF ev) ops round (fun sl ds m n => ev fn nt (endK keep ops fn sl) k ds false kind round m n) ops.toList sl ds m n
  | false => none
def condK (ev : Ev) (fn : FuncId) (nt : Nat) (sl : Slots) (k : List Item) (ds : List Deferred) (kind : CallKind) (round : Option Nat) (m : Mem) (n : Nat) (x y : Code) : Option Value → Res
  | some (.bool true) => ev fn nt sl (.code x :: k) ds false kind round m n
  | some (.bool false) => ev fn nt sl (.code y :: k) ds false kind round m n
  | _ => none
def codeK (P : Program) (keep : FuncId → Option (List Nat)) (ev : Ev) (fn : FuncId) (nt : Nat) (sl : Slots) (k : List Item) (ds : List Deferred) (kind : CallKind) (round : Option Nat) (m : Mem) (n : Nat) : Code → Res
  | .seq a b => ev fn nt sl (.code a :: .code b :: k) ds false kind round m n
  | .skip => ev fn nt sl k ds false kind round m n
  | .label _ => ev fn nt sl k ds false kind round m n
  | .cond c x y => condK ev fn nt sl k ds kind round m n x y (evOK sl c)
  | .block id body => ev fn nt sl (.code body :: .inBlock id :: k) ds false kind round m n
  | .loop body => ev fn nt sl (.code body :: .inLoop body :: k) ds false kind round m n
  | .scope body => ev fn nt sl (.code body :: .inScope body :: k) ds false kind round m n
  | .region _ ops draw => regionK P keep ev fn nt sl k ds kind round m n ops draw
  | c => genK P (evF ev) ⟨fn, nt, sl, .code c :: k, ds, false, kind, round⟩ m n
def itemK (P : Program) (keep : FuncId → Option (List Nat)) (ev : Ev) (fn : FuncId) (nt : Nat) (sl : Slots) (k : List Item) (ds : List Deferred) (kind : CallKind) (round : Option Nat) (m : Mem) (n : Nat) : Item → Res
  | .code c => codeK P keep ev fn nt sl k ds kind round m n c
  | .inBlock _ => ev fn nt sl k ds false kind round m n
  | .inScope _ => ev fn nt sl k ds false kind round m n
  | .inLoop body => ev fn nt (pruneK (keep fn) sl) (.code body :: .inLoop body :: k) ds false kind round m n
  | x => genK P (evF ev) ⟨fn, nt, sl, x :: k, ds, false, kind, round⟩ m n
def stepK (P : Program) (keep : FuncId → Option (List Nat)) (ev : Ev) (fn : FuncId) (nt : Nat) (sl : Slots) (todo : List Item) (ds : List Deferred) (ret : Bool) (kind : CallKind) (round : Option Nat) (m : Mem) (n : Nat) : Res :=
  match ret with
  | true => genK P (evF ev) ⟨fn, nt, sl, todo, ds, true, kind, round⟩ m n
  | false => match todo with
    | [] => genK P (evF ev) ⟨fn, nt, sl, [], ds, false, kind, round⟩ m n
    | x :: k => itemK P keep ev fn nt sl k ds kind round m n x
def evK (P : Program) (keep : FuncId → Option (List Nat)) (fuel : Nat) : Ev :=
  @Nat.rec (fun _ => Ev) (fun _ _ _ _ _ _ _ _ _ _ => none) (fun _ ih => stepK P keep ih) fuel

def callK (P : Program) (keep : FuncId → Option (List Nat)) (fuel : Nat) (f : FuncId) (args : List Value) (m : Mem) (n : Nat) : Res :=
  match enterA P f args .normal with
  | some fr => evF (evK P keep fuel) fr m n
  | none => none
end
end Go.Ab
