/- Runs of closed calls: values of operations that change nothing. -/
import Derived.Test.YtgadojhdajmidaaGreatDoorSepT
set_option linter.unusedSimpArgs false
set_option linter.unusedVariables false
namespace Go.Sep

noncomputable def fB {β : Type} (b : Bool) (K : Bool → β) : β := Bool.rec (motive := fun _ => β) (K false) (K true) b
theorem fB_eq {β : Type} (b : Bool) (K : Bool → β) : fB b K = K b := by cases b <;> rfl

def eqI : Int → Int → Bool
  | .ofNat m, .ofNat n => Nat.beq m n
  | .negSucc m, .negSucc n => Nat.beq m n
  | _, _ => false
def ltI : Int → Int → Bool
  | .ofNat m, .ofNat n => Nat.blt m n
  | .negSucc m, .negSucc n => Nat.blt n m
  | .negSucc _, .ofNat _ => true
  | .ofNat _, .negSucc _ => false
def leI (a b : Int) : Bool := !ltI b a

theorem beq_dec (m n : Nat) : Nat.beq m n = decide (m = n) := by
  cases h : Nat.beq m n with
  | true => simp [Nat.eq_of_beq_eq_true h]
  | false => simp [Nat.ne_of_beq_eq_false h]
theorem ble_dec (m n : Nat) : Nat.ble m n = decide (m ≤ n) := by
  cases h : Nat.ble m n with
  | true => simp [Nat.le_of_ble_eq_true h]
  | false =>
    have : ¬ m ≤ n := fun h2 => by rw [Nat.ble_eq_true_of_le h2] at h; cases h
    simp [this]
theorem blt_dec (m n : Nat) : Nat.blt m n = decide (m < n) := by
  show Nat.ble (m + 1) n = _
  rw [ble_dec]; exact decide_eq_decide.2 Iff.rfl

theorem eqI_eq (a b : Int) : eqI a b = decide (a = b) := by
  cases a <;> cases b <;> simp only [eqI, beq_dec]
  · exact decide_eq_decide.2 (by constructor <;> intro h <;> (first | rw [h] | exact Int.ofNat.inj h))
  · rw [eq_comm, decide_eq_false_iff_not]; intro h; cases h
  · rw [eq_comm, decide_eq_false_iff_not]; intro h; cases h
  · exact decide_eq_decide.2 (by constructor <;> intro h <;> (first | rw [h] | exact Int.negSucc.inj h))
theorem ltI_eq (a b : Int) : ltI a b = decide (a < b) := by
  cases a <;> cases b <;> simp only [ltI, blt_dec]
  · exact decide_eq_decide.2 (by simp only [Int.ofNat_eq_natCast]; omega)
  · rw [eq_comm, decide_eq_false_iff_not]; simp only [Int.ofNat_eq_natCast]; omega
  · rw [eq_comm, decide_eq_true_iff]; simp only [Int.ofNat_eq_natCast]; omega
  · exact decide_eq_decide.2 (by omega)
theorem leI_eq (a b : Int) : leI a b = decide (a ≤ b) := by
  unfold leI; rw [ltI_eq]
  by_cases h : b < a
  · simp only [h, decide_true, Bool.not_true]; rw [eq_comm, decide_eq_false_iff_not]; omega
  · simp only [h, decide_false, Bool.not_false]; rw [eq_comm, decide_eq_true_iff]; omega

/-! ### Operators -/

noncomputable def intC (op : BinOp) (k : IntKind) (a b : Int) : Option Value :=
  match op with
  | .add => fI (wrapF k (Int.add a b)) fun n => some (.int k n)
  | .sub => fI (wrapF k (Int.sub a b)) fun n => some (.int k n)
  | .mul => fI (wrapF k (Int.mul a b)) fun n => some (.int k n)
  | .quo => bif eqI b 0 then none else fI (wrapF k (a.tdiv b)) fun n => some (.int k n)
  | .rem => bif eqI b 0 then none else fI (a.tmod b) fun n => some (.int k n)
  | .and => fI (bAnd k a b) fun n => some (.int k n)
  | .or => fI (bOr k a b) fun n => some (.int k n)
  | .xor => fI (bXor k a b) fun n => some (.int k n)
  | .andNot => fI (bAndNot k a b) fun n => some (.int k n)
  | .eql => fB (eqI a b) fun c => some (.bool c)
  | .neq => fB (eqI a b) fun c => some (.bool (!c))
  | .lss => fB (ltI a b) fun c => some (.bool c)
  | .leq => fB (leI a b) fun c => some (.bool c)
  | .gtr => fB (ltI b a) fun c => some (.bool c)
  | .geq => fB (leI b a) fun c => some (.bool c)
  | _ => none

/-- A value is found, whatever is asked of it. -/
def Gives (ι : Ren) (v : Value) (W : (Value → Prop) → Prop) : Prop := ∃ v', VR ι v v' ∧ ∀ K, K v' → W K

theorem intC_ok {ι : Ren} {op : BinOp} {k : IntKind} {a b : Int} {v : Value} (h : intC op k a b = some v) : Gives ι v (intW op k a b) := by
  unfold intC at h
  split at h <;> try simp only [fI_eq, fB_eq, wrapF_eq, eqI_eq, ltI_eq, leI_eq, Option.some.injEq] at h
  · subst h; exact ⟨_, .int .., fun K hk => hk⟩
  · subst h; exact ⟨_, .int .., fun K hk => hk⟩
  · subst h; exact ⟨_, .int .., fun K hk => hk⟩
  · by_cases hb : b = 0
    · simp [hb] at h
    · simp [hb] at h; subst h; exact ⟨_, .int .., fun K hk => ⟨hb, hk⟩⟩
  · by_cases hb : b = 0
    · simp [hb] at h
    · simp [hb] at h; subst h; exact ⟨_, .int .., fun K hk => ⟨hb, hk⟩⟩
  · subst h; exact ⟨_, .int .., fun K hk => hk⟩
  · subst h; exact ⟨_, .int .., fun K hk => hk⟩
  · subst h; exact ⟨_, .int .., fun K hk => hk⟩
  · subst h; exact ⟨_, .int .., fun K hk => hk⟩
  · subst h; exact ⟨_, .bool _, fun K hk => hk⟩
  · subst h; exact ⟨_, .bool _, fun K hk => hk⟩
  · subst h; exact ⟨_, .bool _, fun K hk => hk⟩
  · subst h; exact ⟨_, .bool _, fun K hk => hk⟩
  · subst h; exact ⟨_, .bool _, fun K hk => hk⟩
  · subst h; exact ⟨_, .bool _, fun K hk => hk⟩
  · cases h

noncomputable def strC (op : BinOp) (a b : ByteArray) : Option Value :=
  match op with
  | .add => bif Nat.ble (Nat.add (lenB a) (lenB b)) 9223372036854775807 then fL (lstB a ++ lstB b) fun l => some (.string (mkB l)) else none
  | .eql => fB (beqB (lstB a) (lstB b)) fun c => some (.bool c)
  | .neq => fB (beqB (lstB a) (lstB b)) fun c => some (.bool (!c))
  | .lss => fB (strLt a b) fun c => some (.bool c)
  | .leq => fB (strLt a b || beqB (lstB a) (lstB b)) fun c => some (.bool c)
  | .gtr => fB (strLt a b || beqB (lstB a) (lstB b)) fun c => some (.bool (!c))
  | .geq => fB (strLt a b) fun c => some (.bool (!c))
  | _ => none

theorem strC_ok {ι : Ren} {op : BinOp} {a b : ByteArray} {v : Value} (h : strC op a b = some v) : Gives ι v (strW op a b) := by
  unfold strC at h
  split at h <;> try simp only [fL_eq, fB_eq, beqS_eq, lenB_eq, mkB_append, Option.some.injEq] at h
  · cases hb : Nat.ble (Nat.add a.size b.size) 9223372036854775807 with
    | false => rw [hb] at h; cases h
    | true =>
      rw [hb] at h; cases h
      exact ⟨_, .str _, fun K hk => ⟨Nat.le_of_ble_eq_true hb, hk⟩⟩
  · subst h; exact ⟨_, .bool _, fun K hk => hk⟩
  · subst h; exact ⟨_, .bool _, fun K hk => hk⟩
  · subst h; exact ⟨_, .bool _, fun K hk => hk⟩
  · subst h; exact ⟨_, .bool _, fun K hk => hk⟩
  · subst h; exact ⟨_, .bool _, fun K hk => hk⟩
  · subst h; exact ⟨_, .bool _, fun K hk => hk⟩
  · cases h

def eqC (d : TD) (x y : Value) : Option Bool :=
  match d with
  | .bool => (match x, y with | .bool a, .bool b => some (a == b) | _, _ => none)
  | .ptr _ => (match x, y with
    | .pointer none, .pointer none => some true
    | .pointer none, .pointer (some _) => some false
    | .pointer (some _), .pointer none => some false
    | .pointer (some a), .pointer (some b) => bif Nat.beq a.block b.block && Nat.beq a.off b.off then some true else none
    | _, _ => none)
  | .slice _ => (match x, y with
    | .slice none _ _, .slice none _ _ => some true
    | .slice none _ _, .slice (some _) _ _ => some false
    | .slice (some _) _ _, .slice none _ _ => some false
    | _, _ => none)
  | .map .. => (match x, y with
    | .map none, .map none => some true
    | .map none, .map (some _) => some false
    | .map (some _), .map none => some false
    | _, _ => none)
  | .iface _ => (match x, y with
    | .nilIface, .iface .. => some false
    | .iface .., .nilIface => some false
    | _, _ => none)
  | _ => none

theorem eqC_ok {ι : Ren} {d : TD} {x y x' y' : Value} {c : Bool} (hx : VR ι x x') (hy : VR ι y y') (h : eqC d x y = some c) : ∀ K : Bool → Prop, K c → eqW d x' y' K := by
  intro K hk
  unfold eqC at h
  split at h
  · split at h
    · cases h; cases hx; cases hy; exact hk
    · cases h
  · split at h
    · cases h; cases hx; cases hy; exact hk
    · cases h; cases hx; cases hy; exact hk
    · cases h; cases hx; cases hy; exact hk
    · rename_i a b
      cases hx; cases hy
      rename_i b1 o1 i1 h1 b2 o2 i2 h2
      cases hc : (Nat.beq b1 b2 && Nat.beq o1 o2) with
      | false => rw [hc] at h; cases h
      | true =>
        rw [hc] at h; cases h
        rw [Bool.and_eq_true] at hc
        obtain rfl := Nat.eq_of_beq_eq_true hc.1
        obtain rfl := Nat.eq_of_beq_eq_true hc.2
        rw [h1] at h2; cases h2
        exact ⟨rfl, by simpa using hk⟩
    · cases h
  · split at h <;> first | (cases h; cases hx <;> cases hy <;> exact hk) | cases h
  · split at h <;> first | (cases h; cases hx; cases hy; exact hk) | cases h
  · split at h <;> first | (cases h; cases hx; cases hy; exact hk) | cases h
  · cases h

noncomputable def binC (T : Nat → Option TInf) (op : BinOp) (t : Nat) (x y : Value) : Option Value :=
  match x with
  | .int k a =>
    (match y with
    | .int k' b =>
      (match op with
      | .shl => bif leI 0 b then fI (shlZ k a b) fun n => some (.int k n) else none
      | .shr => bif leI 0 b then fI (shrZ k a b) fun n => some (.int k n) else none
      | _ => bif decide (k' = k) then intC op k a b else none)
    | _ => none)
  | .string a => (match y with | .string b => strC op a b | _ => none)
  | _ =>
    match T t with
    | some i => bif ptrFit T i.desc then (match eqC i.desc x y with
      | some c => (match op with | .eql => fB c fun c => some (.bool c) | .neq => fB c fun c => some (.bool (!c)) | _ => none)
      | none => none) else none
    | none => none

theorem binC_ok {ι : Ren} {T : Nat → Option TInf} {op : BinOp} {t : Nat} {x y x' y' v : Value} (hx : VR ι x x') (hy : VR ι y y') (h : binC T op t x y = some v) : Gives ι v (binW T op t x' y') := by
  unfold binC at h
  split at h
  · rename_i k a
    split at h
    · rename_i k' b
      cases hx; cases hy
      split at h
      · cases hb : leI 0 b with
        | false => rw [hb] at h; cases h
        | true =>
          rw [hb] at h; simp only [cond_true, fI_eq] at h; cases h
          rw [leI_eq] at hb
          exact ⟨_, .int .., fun K hk => ⟨of_decide_eq_true hb, hk⟩⟩
      · cases hb : leI 0 b with
        | false => rw [hb] at h; cases h
        | true =>
          rw [hb] at h; simp only [cond_true, fI_eq] at h; cases h
          rw [leI_eq] at hb
          exact ⟨_, .int .., fun K hk => ⟨of_decide_eq_true hb, hk⟩⟩
      · rename_i h1 h2
        cases hk : decide (k' = k) with
        | false => rw [hk] at h; cases h
        | true =>
          rw [hk] at h
          obtain ⟨v', h3, h4⟩ := intC_ok (ι := ι) h
          refine ⟨v', h3, fun K hK => ?_⟩
          have := h4 K hK
          cases op <;> first | exact absurd rfl h1 | exact absurd rfl h2 | (simp only [binW, asI, hk, cond_true]; exact this)
    · cases h
  · split at h
    · cases hx; cases hy
      obtain ⟨v', h3, h4⟩ := strC_ok (ι := ι) h
      exact ⟨v', h3, fun K hK => h4 K hK⟩
    · cases h
  · rename_i n1 n2
    split at h
    · rename_i i hi
      cases hp : ptrFit T i.desc with
      | false => rw [hp] at h; cases h
      | true =>
        rw [hp] at h
        simp only [cond_true] at h
        split at h
        · rename_i c hc
          have hm : ∀ (K : Value → Prop), binW T op t x' y' K = (match op with
              | .eql => optW (T t) fun i => bif ptrFit T i.desc then eqW i.desc x' y' fun b => K (.bool b) else False
              | .neq => optW (T t) fun i => bif ptrFit T i.desc then eqW i.desc x' y' fun b => K (.bool !b) else False
              | _ => False) := by
            intro K
            cases hx <;> first | exact absurd rfl (n1 _ _) | exact absurd rfl (n2 _) | (cases op <;> rfl)
          split at h
          · simp only [fB_eq] at h; cases h
            refine ⟨_, .bool _, fun K hk => ?_⟩
            rw [hm]
            refine optW_of hi ?_
            rw [hp]
            exact eqC_ok hx hy hc (fun b => K (.bool b)) hk
          · simp only [fB_eq] at h; cases h
            refine ⟨_, .bool _, fun K hk => ?_⟩
            rw [hm]
            refine optW_of hi ?_
            rw [hp]
            exact eqC_ok hx hy hc (fun b => K (.bool !b)) hk
          · cases h
        · cases h
    · cases h

noncomputable def unC (op : UnOp) (x : Value) : Option Value :=
  match op, x with
  | .not, .bool b => fB b fun b => some (.bool (!b))
  | .neg, .int k n => fI (wrapF k (Int.sub 0 n)) fun n => some (.int k n)
  | .xor, .int k n => fI (bXor k (if k.signed then -1 else k.max) n) fun n => some (.int k n)
  | _, _ => none

theorem unC_ok {ι : Ren} {op : UnOp} {x x' v : Value} (hx : VR ι x x') (h : unC op x = some v) : Gives ι v (unW op x') := by
  unfold unC at h
  split at h <;> first
    | (simp only [fB_eq, fI_eq, wrapF_eq, Option.some.injEq] at h; cases hx; subst h; first | exact ⟨_, .bool _, fun K hk => hk⟩ | exact ⟨_, .int .., fun K hk => hk⟩)
    | cases h

end Go.Sep
