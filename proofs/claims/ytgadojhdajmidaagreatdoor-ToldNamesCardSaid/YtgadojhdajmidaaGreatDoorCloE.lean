/- Regions that draw their order: the check, and the run in one order. -/
import Derived.Test.YtgadojhdajmidaaGreatDoorCloD
set_option linter.unusedSimpArgs false
set_option linter.unusedVariables false
namespace Go.Sep

/-! ### The check -/

def dstIs (o : Oper) (t : Nat) : Bool := match o.dst with | some d => Nat.beq d t | none => false

theorem dstIs_ok {o : Oper} {t : Nat} (h : o.dst = some t) : dstIs o t = true := by simp [dstIs, h]

def sokB (ops : Array Oper) : Bool :=
  ops.toList.zipIdx.all fun p =>
    (bif Nat.ble (knd p.1.op) 1 then (match p.1.dst with
      | some d => !((rds ops p.1).contains d) && ops.toList.zipIdx.all fun q => Nat.beq q.2 p.2 || !dstIs q.1 d
      | none => false) else true) &&
    (rds ops p.1).all fun t => ops.toList.zipIdx.all fun q => Nat.beq q.2 p.2 || (!dstIs q.1 t ||
      (bif Nat.ble (knd q.1.op) 1 then hasB ((stars ops).getD p.2 0) q.2 else hasB ((stars ops).getD p.2 0) q.2 || hasB ((stars ops).getD q.2 0) p.2))

theorem mem_zip {ops : Array Oper} {i : Nat} {o : Oper} (h : ops[i]? = some o) : (o, i) ∈ ops.toList.zipIdx := by
  rw [List.mem_zipIdx_iff_getElem?]; simpa using h

theorem starsD {ops : Array Oper} {i k : Nat} (h : hasB ((stars ops).getD i 0) k = true) : Star ops i k := by
  cases hs : (stars ops)[i]? with
  | none => simp [List.getD, hs, hasB] at h
  | some m => simp [List.getD, hs] at h; exact stars_ok hs h

theorem sokB_ok {ops : Array Oper} (h : sokB ops = true) : SOk ops := by
  unfold sokB at h
  rw [List.all_eq_true] at h
  have key : ∀ {i o k o' t}, ops[i]? = some o → ops[k]? = some o' → t ∈ rds ops o → o'.dst = some t → k ≠ i →
      (bif Nat.ble (knd o'.op) 1 then hasB ((stars ops).getD i 0) k else hasB ((stars ops).getD i 0) k || hasB ((stars ops).getD k 0) i) = true := by
    intro i o k o' t hi hk ht hd hne
    have h1 := h _ (mem_zip hi)
    simp only [Bool.and_eq_true] at h1
    have h2 := (List.all_eq_true.1 h1.2) t ht
    have h3 := (List.all_eq_true.1 h2) _ (mem_zip hk)
    simp only at h3
    have hb : Nat.beq k i = false := by
      cases hb : Nat.beq k i with
      | false => rfl
      | true => exact absurd (Nat.eq_of_beq_eq_true hb) hne
    rw [hb, dstIs_ok hd] at h3
    simpa using h3
  refine ⟨fun i o hi hk => ?_, fun i o k o' t hi hk ht hd hkn hne => ?_, fun i o k o' t hi hk ht hd hne => ?_⟩
  · have h1 := h _ (mem_zip hi)
    simp only [Bool.and_eq_true] at h1
    have h2 := h1.1
    rw [Nat.ble_eq_true_of_le hk] at h2
    simp only [cond_true] at h2
    split at h2
    · rename_i d hd
      simp only [Bool.and_eq_true, Bool.not_eq_true'] at h2
      refine ⟨d, hd, fun hm => ?_, fun j o' hj hd' => ?_⟩
      · have := List.contains_iff_mem.2 hm
        rw [this] at h2; exact absurd h2.1 (by simp)
      · have h3 := (List.all_eq_true.1 h2.2) _ (mem_zip hj)
        simp only [dstIs_ok hd', Bool.not_true, Bool.or_false] at h3
        exact Nat.eq_of_beq_eq_true h3
    · cases h2
  · have h1 := key hi hk ht hd hne
    rw [Nat.ble_eq_true_of_le hkn] at h1
    exact starsD h1
  · have h1 := key hi hk ht hd hne
    cases hb : Nat.ble (knd o'.op) 1 with
    | true => rw [hb] at h1; exact .inl (starsD h1)
    | false =>
      rw [hb] at h1
      simp only [cond_false, Bool.or_eq_true] at h1
      exact h1.imp starsD starsD

/-! ### The run -/

noncomputable def gdC (ops : Array Oper) (o : Oper) (ev : HT Value) : Option Bool :=
  match o.guard with
  | none => some true
  | some (j, want) => (match (ops[j]?).bind (·.dst) with
    | some u => (match ev.get u with | some (.bool B) => some (B == want) | some (.tuple ⟨[]⟩) => some false | _ => none)
    | none => none)

noncomputable def stepVal (T : Nat → Option TInf) (ops : Array Oper) (o : Oper) (ev : HT Value) (τ : VH) : Option Value :=
  match gdC ops o ev with
  | some false => some undef
  | some true => (match valsC ev (opnds o.op) with | some vs => bif Nat.beq (knd o.op) 0 then stP T o.op vs τ else none | none => none)
  | none => none

def veq : Nat → Value → Value → Bool
  | _, .bool a, .bool b => a == b
  | _, .int k a, .int k' b => decide (k = k') && eqI a b
  | _, .string a, .string b => decide (a = b)
  | _, .pointer none, .pointer none => true
  | _, .pointer (some a), .pointer (some b) => Nat.beq a.block b.block && Nat.beq a.off b.off && a.spot.isNone && b.spot.isNone
  | _, .slice none l c, .slice none l' c' => Nat.beq l l' && Nat.beq c c'
  | _, .slice (some a) l c, .slice (some b) l' c' => Nat.beq a.block b.block && Nat.beq a.off b.off && a.spot.isNone && b.spot.isNone && (Nat.beq l l' && Nat.beq c c')
  | _, .map none, .map none => true
  | _, .map (some a), .map (some b) => Nat.beq a b
  | _, .nilFunc, .nilFunc => true
  | _, .nilIface, .nilIface => true
  | n + 1, .iface t v, .iface t' v' => Nat.beq t t' && veq n v v'
  | n + 1, .agg ⟨a⟩, .agg ⟨b⟩ => Nat.beq a.length b.length && (a.zip b).all fun p => veq n p.1 p.2
  | n + 1, .tuple ⟨a⟩, .tuple ⟨b⟩ => Nat.beq a.length b.length && (a.zip b).all fun p => veq n p.1 p.2
  | n + 1, .func (.func f) ⟨a⟩ ⟨c⟩, .func (.func g) ⟨b⟩ ⟨d⟩ => Nat.beq f g && (Nat.beq a.length b.length && (a.zip b).all fun p => veq n p.1 p.2) && (Nat.beq c.length d.length && (c.zip d).all fun p => veq n p.1 p.2)
  | _, _, _ => false

theorem zip_all_eq {α : Type} {f : α → α → Bool} (hf : ∀ a b, f a b = true → a = b) : ∀ {a b : List α}, a.length = b.length → ((a.zip b).all fun p => f p.1 p.2) = true → a = b
  | [], [], _, _ => rfl
  | x :: a, y :: b, hl, h => by
    simp only [List.zip_cons_cons, List.all_cons, Bool.and_eq_true] at h
    rw [hf x y h.1, zip_all_eq hf (by simpa using hl) h.2]
  | [], _ :: _, hl, _ => by simp at hl
  | _ :: _, [], hl, _ => by simp at hl

theorem addr_eq {a b : Addr} (h1 : a.block = b.block) (h2 : a.off = b.off) (h3 : a.spot.isNone = true) (h4 : b.spot.isNone = true) : a = b := by
  obtain ⟨b1, o1, s1⟩ := a
  obtain ⟨b2, o2, s2⟩ := b
  cases s1 <;> cases s2 <;> simp_all

theorem veq_ok : ∀ {n : Nat} {a b : Value}, veq n a b = true → a = b := by
  intro n
  induction n with
  | zero =>
    intro a b h
    unfold veq at h
    split at h <;> try simp only [Bool.and_eq_true, beq_iff_eq, decide_eq_true_eq, eqI_eq] at h
    · rw [h]
    · rw [h.1, h.2]
    · rw [h]
    · rfl
    · obtain ⟨⟨⟨h1, h2⟩, h3⟩, h4⟩ := h
      rw [addr_eq (Nat.eq_of_beq_eq_true h1) (Nat.eq_of_beq_eq_true h2) h3 h4]
    · rw [Nat.eq_of_beq_eq_true h.1, Nat.eq_of_beq_eq_true h.2]
    · obtain ⟨⟨⟨⟨h1, h2⟩, h3⟩, h4⟩, h5, h6⟩ := h
      rw [addr_eq (Nat.eq_of_beq_eq_true h1) (Nat.eq_of_beq_eq_true h2) h3 h4, Nat.eq_of_beq_eq_true h5, Nat.eq_of_beq_eq_true h6]
    · rfl
    · rw [Nat.eq_of_beq_eq_true h]
    · rfl
    · rfl
    · omega
    · omega
    · omega
    · omega
    · cases h
  | succ n ih =>
    intro a b h
    unfold veq at h
    split at h <;> try simp only [Bool.and_eq_true, beq_iff_eq, decide_eq_true_eq, eqI_eq] at h
    · rw [h]
    · rw [h.1, h.2]
    · rw [h]
    · rfl
    · obtain ⟨⟨⟨h1, h2⟩, h3⟩, h4⟩ := h
      rw [addr_eq (Nat.eq_of_beq_eq_true h1) (Nat.eq_of_beq_eq_true h2) h3 h4]
    · rw [Nat.eq_of_beq_eq_true h.1, Nat.eq_of_beq_eq_true h.2]
    · obtain ⟨⟨⟨⟨h1, h2⟩, h3⟩, h4⟩, h5, h6⟩ := h
      rw [addr_eq (Nat.eq_of_beq_eq_true h1) (Nat.eq_of_beq_eq_true h2) h3 h4, Nat.eq_of_beq_eq_true h5, Nat.eq_of_beq_eq_true h6]
    · rfl
    · rw [Nat.eq_of_beq_eq_true h]
    · rfl
    · rfl
    · rename_i m _ _ _ _ hm
      cases hm
      rw [Nat.eq_of_beq_eq_true h.1, ih h.2]
    · rename_i m _ _ hm
      cases hm
      rw [zip_all_eq (fun _ _ h => ih h) (Nat.eq_of_beq_eq_true h.1) h.2]
    · rename_i m _ _ hm
      cases hm
      rw [zip_all_eq (fun _ _ h => ih h) (Nat.eq_of_beq_eq_true h.1) h.2]
    · rename_i m _ _ _ _ _ _ hm
      cases hm
      obtain ⟨⟨h1, h2, h3⟩, h4, h5⟩ := h
      rw [Nat.eq_of_beq_eq_true h1, zip_all_eq (fun _ _ h => ih h) (Nat.eq_of_beq_eq_true h2) h3, zip_all_eq (fun _ _ h => ih h) (Nat.eq_of_beq_eq_true h4) h5]
    · cases h

structure SI where
  i : Nat
  o : Oper
  b : Nat
  pm : Nat
  k : Nat
  st : Nat

def siOf (ss : List Nat) (p : Oper × Nat) : SI := ⟨p.2, p.1, bit p.2, maskOf (preOf p.1), knd p.1.op, ss.getD p.2 0⟩
def infs (ops : Array Oper) : List SI := ops.toList.zipIdx.map (siOf (stars ops))

def SI.rdy (s : SI) (done : Nat) : Bool := Nat.beq (Nat.land done s.b) 0 && Nat.beq (Nat.land done s.pm) s.pm

noncomputable def findS (done : Nat) (l : List SI) : Option SI :=
  List.rec (motive := fun _ => Option SI) none (fun s _ ih => Bool.rec (motive := fun _ => Option SI) ih (some s) (Nat.ble s.k 1 && s.rdy done)) l
noncomputable def findO (done : Nat) (l : List SI) : List SI :=
  List.rec (motive := fun _ => List SI) [] (fun s _ ih => Bool.rec (motive := fun _ => List SI) ih (s :: ih) (s.rdy done)) l

theorem findS_eq (done : Nat) (l : List SI) : findS done l = l.find? fun s => Nat.ble s.k 1 && s.rdy done := by
  induction l with
  | nil => rfl
  | cons s l ih =>
    show Bool.rec (motive := fun _ => Option SI) (findS done l) (some s) (Nat.ble s.k 1 && s.rdy done) = _
    rw [ih, List.find?_cons]
    cases (Nat.ble s.k 1 && s.rdy done) <;> rfl

theorem findO_eq (done : Nat) (l : List SI) : findO done l = l.filter fun s => s.rdy done := by
  induction l with
  | nil => rfl
  | cons s l ih =>
    show Bool.rec (motive := fun _ => List SI) (findO done l) (s :: findO done l) (s.rdy done) = _
    rw [ih, List.filter_cons]
    cases s.rdy done <;> rfl

def rechk (T : Nat → Option TInf) (ops : Array Oper) (l : List SI) (done : Nat) (s : SI) (ev : HT Value) (τ : VH) : Prop := ∀ q ∈ l, q.k = 0 → hasB done q.i = true → hasB s.st q.i = false →
  ∃ d v, q.o.dst = some d ∧ stepVal T ops q.o ev τ = some v ∧ ev.get d = some v

noncomputable def rechkB (T : Nat → Option TInf) (ops : Array Oper) (done : Nat) (s : SI) (ev : HT Value) (τ : VH) (l : List SI) : Bool :=
  List.rec (motive := fun _ => Bool) true (fun q _ ih => Bool.rec (motive := fun _ => Bool) ih (match q.o.dst with
    | some d => (match stepVal T ops q.o ev τ, ev.get d with | some a, some b => Bool.rec (motive := fun _ => Bool) false ih (veq 5 a b) | _, _ => false)
    | none => false) (Nat.beq q.k 0 && (hasB done q.i && !hasB s.st q.i))) l

theorem rechkB_ok {T : Nat → Option TInf} {ops : Array Oper} {done : Nat} {s : SI} {ev : HT Value} {τ : VH} : ∀ {l : List SI}, rechkB T ops done s ev τ l = true → rechk T ops l done s ev τ
  | [], _ => fun q hq => by cases hq
  | q :: l, h => by
    have h' : Bool.rec (motive := fun _ => Bool) (rechkB T ops done s ev τ l) (match q.o.dst with
      | some d => (match stepVal T ops q.o ev τ, ev.get d with | some a, some b => Bool.rec (motive := fun _ => Bool) false (rechkB T ops done s ev τ l) (veq 5 a b) | _, _ => false)
      | none => false) (Nat.beq q.k 0 && (hasB done q.i && !hasB s.st q.i)) = true := h
    intro x hx hk hd hs
    cases hc : (Nat.beq q.k 0 && (hasB done q.i && !hasB s.st q.i)) with
    | false =>
      rw [hc] at h'
      rcases List.mem_cons.1 hx with rfl | hx
      · rw [hk, hd, hs] at hc; cases hc
      · exact rechkB_ok (l := l) h' x hx hk hd hs
    | true =>
      rw [hc] at h'
      simp only at h'
      split at h'
      · rename_i d hdst
        split at h'
        · rename_i a b ha hb
          cases hv : veq 5 a b with
          | false => rw [hv] at h'; cases h'
          | true =>
            rw [hv] at h'
            have := veq_ok hv
            rcases List.mem_cons.1 hx with rfl | hx
            · subst this; exact ⟨d, a, hdst, ha, hb⟩
            · exact rechkB_ok (l := l) h' x hx hk hd hs
        · cases h'
      · cases h'

inductive RRes where
  | ok (ev : HT Value) (τ : VH)
  | pan (v : Value) (τ : VH)

noncomputable def regD (T : Nat → Option TInf) (call : CallT) (ops : Array Oper) (l : List SI) (full : Nat) (fuel : Nat) : Nat → HT Value → VH → Option RRes :=
  Nat.rec (motive := fun _ => Nat → HT Value → VH → Option RRes) (fun _ _ _ => none)
    (fun _ go done ev τ =>
      match findS done l with
      | some s => (match gdC ops s.o ev with
        | some false => go (Nat.lor done s.b) (putC ev s.o.dst undef) τ
        | some true => (match valsC ev (opnds s.o.op) with
          | some vs => bif Nat.beq s.k 0 then (match stP T s.o.op vs τ with | some v => go (Nat.lor done s.b) (putC ev s.o.dst v) τ | none => none)
            else (match alV T s.o.op vs τ.next with | some (v, row) => go (Nat.lor done s.b) (putC ev s.o.dst v) (τ.add row) | none => none)
          | none => none)
        | none => none)
      | none => (match findO done l with
        | [] => bif Nat.beq done full then some (.ok ev τ) else none
        | [s] => (match gdC ops s.o ev with
          | some false => go (Nat.lor done s.b) (putC ev s.o.dst undef) τ
          | some true => (match valsC ev (opnds s.o.op) with
            | some vs => (match opC T call s.o.op vs τ with
              | some (true, v, τ1) => bif rechkB T ops done s (putC ev s.o.dst v) τ1 l then go (Nat.lor done s.b) (putC ev s.o.dst v) τ1 else none
              | some (false, v, τ1) => some (.pan v τ1)
              | none => none)
            | none => none)
          | none => none)
        | _ => none)) fuel

theorem regD_succ (T : Nat → Option TInf) (call : CallT) (ops : Array Oper) (l : List SI) (full f : Nat) (done : Nat) (ev : HT Value) (τ : VH) : regD T call ops l full (f + 1) done ev τ =
      match findS done l with
      | some s => (match gdC ops s.o ev with
        | some false => regD T call ops l full f (Nat.lor done s.b) (putC ev s.o.dst undef) τ
        | some true => (match valsC ev (opnds s.o.op) with
          | some vs => bif Nat.beq s.k 0 then (match stP T s.o.op vs τ with | some v => regD T call ops l full f (Nat.lor done s.b) (putC ev s.o.dst v) τ | none => none)
            else (match alV T s.o.op vs τ.next with | some (v, row) => regD T call ops l full f (Nat.lor done s.b) (putC ev s.o.dst v) (τ.add row) | none => none)
          | none => none)
        | none => none)
      | none => (match findO done l with
        | [] => bif Nat.beq done full then some (.ok ev τ) else none
        | [s] => (match gdC ops s.o ev with
          | some false => regD T call ops l full f (Nat.lor done s.b) (putC ev s.o.dst undef) τ
          | some true => (match valsC ev (opnds s.o.op) with
            | some vs => (match opC T call s.o.op vs τ with
              | some (true, v, τ1) => bif rechkB T ops done s (putC ev s.o.dst v) τ1 l then regD T call ops l full f (Nat.lor done s.b) (putC ev s.o.dst v) τ1 else none
              | some (false, v, τ1) => some (.pan v τ1)
              | none => none)
            | none => none)
          | none => none)
        | _ => none) := rfl

/-- The whole region: an order that is drawn. -/
noncomputable def drawC (T : Nat → Option TInf) (call : CallT) (ops : Array Oper) (ev : HT Value) (τ : VH) : Option RRes :=
  bif sokB ops then regD T call ops (infs ops) (Nat.sub (bit ops.size) 1) (Nat.succ ops.size) 0 ev τ else none

end Go.Sep
