/- Runs of closed calls: memory, and operations that change nothing. -/
import Derived.Test.YtgadojhdajmidaaGreatDoorSepS
import Derived.IntWalk
set_option linter.unusedSimpArgs false
set_option linter.unusedVariables false
namespace Go.Sep

/-! ### Forced values -/

noncomputable def fN {β : Type} (m : Nat) (K : Nat → β) : β := Nat.rec (motive := fun _ => β) (K 0) (fun k _ => K (Nat.succ k)) m
noncomputable def fI {β : Type} (n : Int) (K : Int → β) : β := Int.rec (motive := fun _ => β) (fun m => fN m fun m => K (.ofNat m)) (fun m => fN m fun m => K (.negSucc m)) n
noncomputable def fL {α β : Type} (l : List α) : (List α → β) → β := List.rec (motive := fun _ => (List α → β) → β) (fun K => K []) (fun a _ ih K => ih fun l => K (a :: l)) l

theorem fN_eq {β : Type} (m : Nat) (K : Nat → β) : fN m K = K m := by cases m <;> rfl
theorem fI_eq {β : Type} (n : Int) (K : Int → β) : fI n K = K n := by
  cases n with
  | ofNat m => exact fN_eq m fun m => K (.ofNat m)
  | negSucc m => exact fN_eq m fun m => K (.negSucc m)
theorem fL_eq {α β : Type} (l : List α) (K : List α → β) : fL l K = K l := by
  induction l generalizing K with
  | nil => rfl
  | cons a l ih => exact ih _

def inR (k : IntKind) (n : Int) : Bool :=
  match k, n with
  | .i64, .ofNat m => Nat.ble m 9223372036854775807
  | .i64, .negSucc m => Nat.ble m 9223372036854775807
  | .u8, .ofNat m => Nat.ble m 255
  | .i32, .ofNat m => Nat.ble m 2147483647
  | .u64, .ofNat m => Nat.ble m 18446744073709551615
  | _, _ => false
def wrapF (k : IntKind) (n : Int) : Int := bif inR k n then n else k.wrap n

theorem wrapF_eq (k : IntKind) (n : Int) : wrapF k n = k.wrap n := by
  unfold wrapF
  cases h : inR k n with
  | false => rfl
  | true =>
    simp only [cond_true]
    unfold inR at h
    split at h
    · have := Nat.le_of_ble_eq_true h; rw [IntWalk.i64_in _ (by constructor <;> (simp only [Int.ofNat_eq_natCast]; omega))]
    · have := Nat.le_of_ble_eq_true h; rw [IntWalk.i64_in _ (by constructor <;> omega)]
    · have := Nat.le_of_ble_eq_true h; rw [IntWalk.u8_in _ (by constructor <;> (simp only [Int.ofNat_eq_natCast]; omega))]
    · have := Nat.le_of_ble_eq_true h; rw [IntWalk.i32_in _ (by constructor <;> (simp only [Int.ofNat_eq_natCast]; omega))]
    · have := Nat.le_of_ble_eq_true h; rw [IntWalk.u64_in _ (by constructor <;> (simp only [Int.ofNat_eq_natCast]; omega))]
    · cases h

/-! ### Strings -/

def mkB (l : List UInt8) : ByteArray := ⟨⟨l⟩⟩
def lstB (s : ByteArray) : List UInt8 := s.data.toList
noncomputable def lenB (s : ByteArray) : Nat := List.rec (motive := fun _ => Nat) 0 (fun _ _ n => Nat.succ n) (lstB s)
noncomputable def beqB (a : List UInt8) : List UInt8 → Bool :=
  List.rec (motive := fun _ => List UInt8 → Bool) (fun b => List.rec (motive := fun _ => Bool) true (fun _ _ _ => false) b)
    (fun x _ ih b => List.rec (motive := fun _ => Bool) false (fun y t _ => bif Nat.beq x.toNat y.toNat then ih t else false) b) a

theorem lenB_eq (s : ByteArray) : lenB s = s.size := by
  have : ∀ l : List UInt8, (List.rec (motive := fun _ => Nat) 0 (fun _ _ n => Nat.succ n) l : Nat) = l.length := by
    intro l; induction l with
    | nil => rfl
    | cons a l ih => simp only [ih]; rfl
  unfold lenB; rw [this]; rfl

theorem beqB_eq : ∀ (a b : List UInt8), beqB a b = decide (a = b) := by
  intro a
  induction a with
  | nil => intro b; cases b <;> rfl
  | cons x a ih =>
    intro b
    cases b with
    | nil => rfl
    | cons y b =>
      show (bif Nat.beq x.toNat y.toNat then beqB a b else false) = _
      rw [ih]
      by_cases hxy : x = y
      · subst hxy; simp
      · have : Nat.beq x.toNat y.toNat = false := by
          cases hb : Nat.beq x.toNat y.toNat with
          | false => rfl
          | true => exact absurd (UInt8.toNat_inj.1 (Nat.eq_of_beq_eq_true hb)) hxy
        rw [this]; simp [hxy]

theorem lstB_inj {a b : ByteArray} : lstB a = lstB b ↔ a = b := by
  constructor
  · intro h
    cases a; cases b
    congr
    exact Array.toList_inj.1 h
  · intro h; rw [h]

theorem beqS_eq (a b : ByteArray) : beqB (lstB a) (lstB b) = decide (a = b) := by
  rw [beqB_eq]; exact decide_eq_decide.2 lstB_inj

theorem mkB_append (a b : ByteArray) : mkB (lstB a ++ lstB b) = a ++ b := by
  apply lstB_inj.1
  simp [mkB, lstB, ByteArray.data_append]

theorem mkB_extract (s : ByteArray) (l h : Nat) : mkB (((lstB s).drop l).take (h - l)) = s.extract l h := by
  apply lstB_inj.1
  simp [mkB, lstB, ByteArray.data_extract]

/-! ### Memory -/

inductive VRow where
  | own (e : Nat) (cells : HT Value) (len room : Nat)
  | map (es : List MapEntry) (clk : Nat)
  | iter (s : ByteArray) (pos : Nat)
  | loop (f n : Nat) (env : HT Value) (ps : List Nat) (assign body : Code) (st : LoopState) (pending : Option Code)
  | fix (g : Nat) (n : Int) (t : TypeId)

structure VH where
  rows : HT VRow
  next : Nat

def MRs (ι : Ren) : List MapEntry → List MapEntry → Prop
  | [], [] => True
  | x :: l, y :: m => VR ι x.key y.key ∧ VR ι x.val y.val ∧ x.born = y.born ∧ MRs ι l m
  | _, _ => False

/-- The temporaries of a closed run are those of a run. -/
def EnvR (ι : Ren) (ev : HT Value) (e : Env) : Prop := ∀ t v, ev.get t = some v → ∃ v', e t = some (none, v') ∧ VR ι v v'

def RR (T : Nat → Option TInf) (ι : Ren) (i : RI) : VRow → Row → Prop
  | .own e cells len room, r => ∃ inf vs, T e = some inf ∧ r = .own e i.sh vs (i.ex * inf.size) ∧ (vs.length = len ∧ (room = 1 → i.sh = 0)) ∧ ∀ j, j < len → ∃ v v', cells.get j = some v ∧ vs[j]? = some v' ∧ VR ι v v'
  | .map es clk, r => ∃ es', r = .obj (.map ⟨es'⟩ clk) ∧ MRs ι es es' ∧ i.sh = 0
  | .iter s pos, r => r = .obj (.stringIter s pos) ∧ i.sh = 0
  | .fix g n t, r => i = ⟨g, 0, 0⟩ ∧ r = .obj (.cells #[.int .i64 n] t)
  | .loop f n env ps as body st pe, r => ∃ rec e, r = .obj (.loop rec) ∧ rec.state = st ∧ rec.pending = pe ∧ EnvR ι env e ∧ LoopIs rec f n ps as body e

theorem MRs.mono {ι ι' : Ren} (hi : RLe ι ι') : ∀ {l m : List MapEntry}, MRs ι l m → MRs ι' l m
  | [], [], _ => trivial
  | _ :: _, _ :: _, h => ⟨h.1.mono hi, h.2.1.mono hi, h.2.2.1, h.2.2.2.mono hi⟩

theorem EnvR.mono {ι ι' : Ren} (hi : RLe ι ι') {ev : HT Value} {e : Env} (h : EnvR ι ev e) : EnvR ι' ev e := fun t v hv => by
  obtain ⟨v', h1, h2⟩ := h t v hv
  exact ⟨v', h1, h2.mono hi⟩

theorem RR.mono {T : Nat → Option TInf} {ι ι' : Ren} (hi : RLe ι ι') {i : RI} {r : VRow} {r' : Row} (h : RR T ι i r r') : RR T ι' i r r' := by
  cases r with
  | own e cells len room =>
    obtain ⟨inf, vs, h1, h2, h3, h4⟩ := h
    refine ⟨inf, vs, h1, h2, h3, fun j hj => ?_⟩
    obtain ⟨v, v', h5, h6, h7⟩ := h4 j hj
    exact ⟨v, v', h5, h6, h7.mono hi⟩
  | map es clk =>
    obtain ⟨es', h1, h2, h3⟩ := h
    exact ⟨es', h1, h2.mono hi, h3⟩
  | iter s pos => exact h
  | fix g n t => exact h
  | loop f n env ps as body st pe =>
    obtain ⟨rec, e, h1, h2, h3, h4, h5⟩ := h
    exact ⟨rec, e, h1, h2, h3, h4.mono hi, h5⟩

structure HR (T : Nat → Option TInf) (ι : Ren) (τ : VH) (σ : SHeap) : Prop where
  rows : ∀ b i r, ι b = some i → τ.rows.get b = some r → ∃ r', σ i.blk = some r' ∧ RR T ι i r r'
  inj : ∀ b c i j, ι b = some i → ι c = some j → τ.rows.get b ≠ none → τ.rows.get c ≠ none → i.blk = j.blk → b = c
  dom : ∀ b i, ι b = some i → b < τ.next
  top : ∀ b, τ.next ≤ b → τ.rows.get b = none
  fixd : ∀ b g n t, τ.rows.get b = some (.fix g n t) → ι b ≠ none

/-- What has changed. -/
structure Ext (ι : Ren) (τ : VH) (ι' : Ren) (τ' : VH) : Prop where
  le : RLe ι ι'
  old : ∀ b, b < τ.next → ι b = none → ι' b = none ∧ τ'.rows.get b = τ.rows.get b
  nx : τ.next ≤ τ'.next

theorem Ext.refl (ι : Ren) (τ : VH) : Ext ι τ ι τ := ⟨RLe.refl ι, fun _ _ h => ⟨h, rfl⟩, Nat.le_refl _⟩
theorem Ext.trans {ι ι1 ι2 : Ren} {τ τ1 τ2 : VH} (h : Ext ι τ ι1 τ1) (h' : Ext ι1 τ1 ι2 τ2) : Ext ι τ ι2 τ2 :=
  ⟨h.le.trans h'.le, fun b hb hn => by
    obtain ⟨h1, h2⟩ := h.old b hb hn
    obtain ⟨h3, h4⟩ := h'.old b (Nat.lt_of_lt_of_le hb h.nx) h1
    exact ⟨h3, h4.trans h2⟩, Nat.le_trans h.nx h'.nx⟩

/-! ### Operands -/

noncomputable def valC (ev : HT Value) (x : Operand) : Option Value :=
  match x with
  | .tmp t => ev.get t
  | .const v => bif cst v then some v else none
  | .func f => some (.func (.func f) ⟨[]⟩ ⟨[]⟩)
  | .global _ => none

noncomputable def valsC (ev : HT Value) (l : List Operand) : Option (List Value) :=
  List.rec (motive := fun _ => Option (List Value)) (some []) (fun x _ ih => match valC ev x with | some v => (match ih with | some vs => some (v :: vs) | none => none) | none => none) l

def Vals (e : Env) (l : List Operand) (vs : List Value) : Prop := l.map e.val = vs.map some

theorem valC_ok {ι : Ren} {ev : HT Value} {e : Env} (he : EnvR ι ev e) {x : Operand} {v : Value} (h : valC ev x = some v) : ∃ v', e.val x = some v' ∧ VR ι v v' := by
  cases x with
  | tmp t =>
    obtain ⟨v', h1, h2⟩ := he t v h
    exact ⟨v', by simp only [Env.val, h1], h2⟩
  | const c =>
    simp only [valC] at h
    cases hc : cst c with
    | false => rw [hc] at h; cases h
    | true => rw [hc] at h; cases h; exact ⟨_, rfl, cst_ok hc⟩
  | func f => cases h; exact ⟨_, rfl, .func .nil .nil⟩
  | global g => cases h

theorem valsC_cons (ev : HT Value) (x : Operand) (l : List Operand) : valsC ev (x :: l) = match valC ev x with | some v => (match valsC ev l with | some vs => some (v :: vs) | none => none) | none => none := rfl

theorem valsC_ok {ι : Ren} {ev : HT Value} {e : Env} (he : EnvR ι ev e) : ∀ {l : List Operand} {vs : List Value}, valsC ev l = some vs → ∃ vs', Vals e l vs' ∧ VRs ι vs vs'
  | [], vs, h => by cases h; exact ⟨[], rfl, .nil⟩
  | x :: l, vs, h => by
    rw [valsC_cons] at h
    split at h
    · rename_i v hv
      split at h
      · rename_i ws hw
        cases h
        obtain ⟨v', h1, h2⟩ := valC_ok he hv
        obtain ⟨ws', h3, h4⟩ := valsC_ok he hw
        refine ⟨v' :: ws', ?_, .cons h2 h4⟩
        simp only [Vals, List.map_cons, h1] at h3 ⊢
        rw [h3]
      · cases h
    · cases h

theorem Vals.cons {e : Env} {x : Operand} {l : List Operand} {vs : List Value} (h : Vals e (x :: l) vs) : ∃ v ws, vs = v :: ws ∧ e.val x = some v ∧ Vals e l ws := by
  cases vs with
  | nil => simp [Vals] at h
  | cons v ws =>
    simp only [Vals, List.map_cons, List.cons.injEq] at h
    exact ⟨v, ws, rfl, h.1, h.2⟩

theorem Vals.nil {e : Env} {vs : List Value} (h : Vals e [] vs) : vs = [] := by
  cases vs with
  | nil => rfl
  | cons v ws => simp [Vals] at h

theorem Vals.append {e : Env} : ∀ {l m : List Operand} {vs : List Value}, Vals e (l ++ m) vs → ∃ a b, vs = a ++ b ∧ Vals e l a ∧ Vals e m b
  | [], m, vs, h => ⟨[], vs, rfl, rfl, h⟩
  | x :: l, m, vs, h => by
    obtain ⟨v, ws, rfl, h1, h2⟩ := Vals.cons h
    obtain ⟨a, b, rfl, h3, h4⟩ := Vals.append h2
    refine ⟨v :: a, b, rfl, ?_, h4⟩
    simp only [Vals, List.map_cons, h1] at h3 ⊢
    rw [h3]

theorem Vals.len {e : Env} {l : List Operand} {vs : List Value} (h : Vals e l vs) : vs.length = l.length := by
  have := congrArg List.length h
  simpa using this.symm

theorem optW_of {α : Type} {o : Option α} {a : α} {K : α → Prop} (h : o = some a) (hk : K a) : optW o K := by subst h; exact hk

theorem valsW_of {e : Env} : ∀ {l : List Operand} {vs : List Value} {K : List Value → Prop}, Vals e l vs → K vs → valsW e l K
  | [], vs, K, h, hk => by cases h.nil; exact hk
  | x :: l, vs, K, h, hk => by
    obtain ⟨v, ws, rfl, h1, h2⟩ := h.cons
    exact optW_of h1 (valsW_of h2 hk)

theorem partsW_of {e : Env} : ∀ {l : List (Nat × Operand)} {vs : List Value} {K : List (Nat × Value) → Prop}, Vals e (l.map (·.2)) vs → K ((l.map (·.1)).zip vs) → partsW e l K
  | [], vs, K, h, hk => by cases h.nil; exact hk
  | x :: l, vs, K, h, hk => by
    obtain ⟨v, ws, rfl, h1, h2⟩ := h.cons
    exact optW_of h1 (partsW_of h2 hk)

end Go.Sep
