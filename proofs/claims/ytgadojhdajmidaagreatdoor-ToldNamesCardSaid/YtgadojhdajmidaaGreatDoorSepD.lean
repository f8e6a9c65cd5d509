/- Operations that change nothing: what they need and give, and that they run so. -/
import Derived.Test.YtgadojhdajmidaaGreatDoorSepC
import GoSem.Dispatch
set_option linter.unusedSimpArgs false
set_option linter.unusedVariables false
namespace Go.Sep

def maskZ (k : IntKind) (f : BitVec k.bits → BitVec k.bits → BitVec k.bits) (a b : Int) : Int := k.wrap (f (BitVec.ofInt k.bits a) (BitVec.ofInt k.bits b)).toNat
def bAnd (k : IntKind) (a b : Int) : Int := maskZ k (· &&& ·) a b
def bOr (k : IntKind) (a b : Int) : Int := maskZ k (· ||| ·) a b
def bXor (k : IntKind) (a b : Int) : Int := maskZ k (· ^^^ ·) a b
def bAndNot (k : IntKind) (a b : Int) : Int := maskZ k (fun x y => x &&& ~~~y) a b
def shlZ (k : IntKind) (a b : Int) : Int := k.wrap (a * 2 ^ (min b.toNat k.bits))
def shrZ (k : IntKind) (a b : Int) : Int := a.fdiv (2 ^ (min b.toNat k.bits))

/-- Integers under an operator. -/
def intW (op : BinOp) (k : IntKind) (a b : Int) (K : Value → Prop) : Prop :=
  match op with
  | .add => K (.int k (k.wrap (a + b)))
  | .sub => K (.int k (k.wrap (a - b)))
  | .mul => K (.int k (k.wrap (a * b)))
  | .quo => b ≠ 0 ∧ K (.int k (k.wrap (a.tdiv b)))
  | .rem => b ≠ 0 ∧ K (.int k (a.tmod b))
  | .and => K (.int k (bAnd k a b))
  | .or => K (.int k (bOr k a b))
  | .xor => K (.int k (bXor k a b))
  | .andNot => K (.int k (bAndNot k a b))
  | .eql => K (.bool (decide (a = b)))
  | .neq => K (.bool (!decide (a = b)))
  | .lss => K (.bool (decide (a < b)))
  | .leq => K (.bool (decide (a ≤ b)))
  | .gtr => K (.bool (decide (b < a)))
  | .geq => K (.bool (decide (b ≤ a)))
  | _ => False

def strLt (a b : ByteArray) : Bool := Op.bytesLess a.data.toList b.data.toList

def strW (op : BinOp) (a b : ByteArray) (K : Value → Prop) : Prop :=
  match op with
  | .add => a.size + b.size ≤ 9223372036854775807 ∧ K (.string (a ++ b))
  | .eql => K (.bool (decide (a = b)))
  | .neq => K (.bool (!decide (a = b)))
  | .lss => K (.bool (strLt a b))
  | .leq => K (.bool (strLt a b || decide (a = b)))
  | .gtr => K (.bool (!(strLt a b || decide (a = b))))
  | .geq => K (.bool (!strLt a b))
  | _ => False

/-- Equality of other values. -/
def eqW (d : TD) (x y : Value) (K : Bool → Prop) : Prop :=
  match d with
  | .bool => asB x fun a => asB y fun b => K (a == b)
  | .ptr _ =>
    match x, y with
    | .pointer none, .pointer q => K q.isNone
    | .pointer (some _), .pointer none => K false
    | .pointer (some a), .pointer (some b) => a.block = b.block ∧ K (decide (a = b))
    | _, _ => False
  | .slice _ =>
    match x, y with
    | .slice none _ _, .slice q _ _ => K q.isNone
    | .slice (some _) _ _, .slice none _ _ => K false
    | _, _ => False
  | .map .. =>
    match x, y with
    | .map none, .map q => K q.isNone
    | .map (some _), .map none => K false
    | _, _ => False
  | .iface _ =>
    match x, y with
    | .nilIface, .iface .. => K false
    | .iface .., .nilIface => K false
    | _, _ => False
  | _ => False

def ptrFit (T : Nat → Option TInf) : TD → Bool
  | .ptr e => match T e with | some j => Nat.blt 0 j.size | none => false
  | _ => true

theorem ptrFit_some {T : Nat → Option TInf} {e : Nat} (h : ptrFit T (.ptr e) = true) : ∃ j, T e = some j ∧ 0 < j.size := by
  unfold ptrFit at h
  cases hj : T e with
  | none => simp [hj] at h
  | some j => simp only [hj] at h; exact ⟨j, rfl, Nat.le_of_ble_eq_true h⟩

def binW (T : Nat → Option TInf) (op : BinOp) (t : Nat) (x y : Value) (K : Value → Prop) : Prop :=
  match x with
  | .int k a =>
    match op with
    | .shl => asI y fun _ b => 0 ≤ b ∧ K (.int k (shlZ k a b))
    | .shr => asI y fun _ b => 0 ≤ b ∧ K (.int k (shrZ k a b))
    | _ => asI y fun k' b => bif decide (k' = k) then intW op k a b K else False
  | .string a => asS y fun b => strW op a b K
  | _ =>
    match op with
    | .eql => optW (T t) fun i => bif ptrFit T i.desc then eqW i.desc x y fun b => K (.bool b) else False
    | .neq => optW (T t) fun i => bif ptrFit T i.desc then eqW i.desc x y fun b => K (.bool !b) else False
    | _ => False

def unW (op : UnOp) (x : Value) (K : Value → Prop) : Prop :=
  match op with
  | .not => asB x fun b => K (.bool !b)
  | .neg => asI x fun k n => K (.int k (k.wrap (0 - n)))
  | .xor => asI x fun k n => K (.int k (bXor k (if k.signed then -1 else k.max) n))
  | _ => False

/-- A part of a value of several cells. -/
def partW (T : Nat → Option TInf) (t : Nat) (cs : Array Value) (off : Nat) (K : Value → Prop) : Prop :=
  optW (T t) fun i => bif i.desc.isAgg then K (.agg (cs.extract off (off + i.size))) else tyV i.desc cs[off]? K

def fieldsOf (T : Nat → Option TInf) (t : Nat) : Option (List (Nat × Nat)) := match T t with | some i => (match i.desc with | .struct fs => some fs | _ => none) | none => none
def elemOfSl (T : Nat → Option TInf) (t : Nat) : Option Nat := match T t with | some i => (match i.desc with | .slice e => some e | _ => none) | none => none
def sizeT (T : Nat → Option TInf) (t : Nat) : Option Nat := match T t with | some i => some i.size | none => none

def byteAt (s : ByteArray) (i : Int) : Int := ((s.data.toList.getD i.toNat 0).toNat : Int)

theorem run_part {P : Program} {T : Nat → Option TInf} (hT : TOk P T) {t : Nat} {cs : Array Value} {off : Nat} {K : Value → Prop} (h : partW T t cs off K) :
    ∃ v, K v ∧ ∀ w, (part t cs off).run P w = .ok v w := by
  obtain ⟨i, hi, h⟩ := optW_some h
  have hok := hT t i hi
  cases hag : i.desc.isAgg with
  | true =>
    rw [hag] at h
    exact ⟨_, h, fun w => by simp only [part, Sem.run_bind, run_isAgg hok, Result.andThen_ok, hag, if_true, run_sizeOf hok]; rfl⟩
  | false =>
    rw [hag] at h
    obtain ⟨v, hv, hk⟩ := tyV_elim h
    exact ⟨v, hk, fun w => by simp only [part, Sem.run_bind, run_isAgg hok, Result.andThen_ok, hag, Bool.false_eq_true, if_false, hv]; rfl⟩

theorem intW_ok {P : Program} {op : BinOp} {k : IntKind} {a b : Int} {K : Value → Prop} (h : intW op k a b K) (t : Nat) (hs : op ≠ .shl ∧ op ≠ .shr) :
    ∃ v, K v ∧ ∀ w, (binOp op t (.int k a) (.int k b)).run P w = .ok v w := by
  cases op with
  | quo => exact ⟨_, h.2, fun w => by simp [binOp, Op.intDiv, h.1]⟩
  | rem => exact ⟨_, h.2, fun w => by simp [binOp, Op.intDiv, h.1]⟩
  | shl => exact absurd rfl hs.1
  | shr => exact absurd rfl hs.2
  | add | sub | mul => exact ⟨_, h, fun w => by simp [binOp, Op.intArith]⟩
  | and | or | xor | andNot => exact ⟨_, h, fun w => by simp only [binOp, Op.intBits, ne_eq, not_true_eq_false, if_false]; rfl⟩
  | eql | neq | lss | leq | gtr | geq => exact ⟨_, h, fun w => by simp only [binOp, Op.intCmp, ne_eq, not_true_eq_false, if_false]; rfl⟩

theorem toList_eq (a : ByteArray) : a.toList = a.data.toList := by
  have key : ∀ n i (r : List UInt8), a.size - i = n → ByteArray.toList.loop a i r = r.reverse ++ a.data.toList.drop i := by
    intro n
    induction n with
    | zero =>
      intro i r h
      unfold ByteArray.toList.loop
      rw [if_neg (by omega)]
      have hle : a.data.toList.length ≤ i := by simp only [Array.length_toList]; have : a.size = a.data.size := rfl; omega
      rw [List.drop_of_length_le hle]; simp
    | succ n ih =>
      intro i r h
      unfold ByteArray.toList.loop
      have hlt : i < a.size := by omega
      rw [if_pos hlt, ih (i + 1) _ (by omega)]
      have hl : i < a.data.toList.length := by simp only [Array.length_toList]; exact hlt
      rw [List.drop_eq_getElem_cons hl]
      simp only [List.reverse_cons, List.append_assoc, List.singleton_append]
      congr 2
      show a.data[i]! = _
      rw [getElem!_pos a.data i hlt]; rfl
  unfold ByteArray.toList
  rw [key _ 0 [] rfl]; simp

theorem toList_inj {a b : ByteArray} : (a.toList == b.toList) = decide (a = b) := by
  rw [toList_eq, toList_eq]
  by_cases h : a = b
  · subst h; simp
  · have : ¬ a.data = b.data := fun e => h (by cases a; cases b; simp at e; subst e; rfl)
    simp [h, this]

theorem strW_ok {P : Program} {op : BinOp} {a b : ByteArray} {K : Value → Prop} (h : strW op a b K) (t : Nat) :
    ∃ v, K v ∧ ∀ w, (binOp op t (.string a) (.string b)).run P w = .ok v w := by
  have e : ∀ w, (binOp op t (.string a) (.string b)).run P w = (Op.stringOp op a b).run P w := fun w => by cases op <;> rfl
  simp only [e, Op.stringOp, toList_inj]
  cases op with
  | add =>
    refine ⟨_, h.2, fun w => ?_⟩
    have h1 := h.1
    rw [if_neg (by simp [IntKind.max, IntKind.signed, IntKind.bits]; omega)]; rfl
  | eql | neq => exact ⟨_, h, fun w => rfl⟩
  | lss | leq | gtr | geq =>
    refine ⟨_, h, fun w => ?_⟩
    simp only [strLt, ← toList_eq]; rfl
  | _ => exact h.elim

theorem eqW_ok {P : Program} {T : Nat → Option TInf} (hT : TOk P T) {t : Nat} {i : TInf} (hi : T t = some i) {x y : Value} {K : Bool → Prop} (h : eqW i.desc x y K)
    (hp : ∀ e, i.desc = .ptr e → ∃ j, T e = some j ∧ 0 < j.size) :
    ∃ b, K b ∧ ∀ w, (Op.equal t x y).run P w = .ok b w := by
  obtain ⟨d, hd, hf⟩ := (hT t i hi).under
  have hu := fun w => run_underlying hd w
  cases hdesc : i.desc <;> rw [hdesc] at h hf <;> cases d <;> first | exact h.elim | (simp [TD.fits] at hf; done) | skip
  all_goals simp only [eqW] at h
  all_goals rw [Op.equal, Op.maxDepth, show (10000 : Nat) = 9999 + 1 from rfl, Op.equalIn]
  all_goals simp only [Sem.run_bind, hu, Result.andThen_ok]
  · obtain ⟨a, rfl, h1⟩ := asB_elim h
    obtain ⟨b, rfl, h2⟩ := asB_elim h1
    exact ⟨_, h2, fun w => rfl⟩
  · rename_i e e'
    split at h
    · exact ⟨_, h, fun w => rfl⟩
    · exact ⟨_, h, fun w => rfl⟩
    · rename_i a b
      refine ⟨_, h.2, fun w => ?_⟩
      obtain ⟨j, hj, hjs⟩ := hp e hdesc
      have he : e = e' := by simpa [TD.fits] using hf
      subst he
      simp only [Sem.run_bind, run_sizeOf (hT e j hj), Result.andThen_ok]
      rw [if_pos (by omega)]
      have hb := h.1
      simp only [sameAddr, beq_iff_eq, hb, if_true]
      rfl
    · exact h.elim
  · split at h
    · exact ⟨_, h, fun w => rfl⟩
    · exact ⟨_, h, fun w => rfl⟩
    · exact h.elim
  · split at h
    · exact ⟨_, h, fun w => rfl⟩
    · exact ⟨_, h, fun w => rfl⟩
    · exact h.elim
  · split at h
    · exact ⟨_, h, fun w => rfl⟩
    · exact ⟨_, h, fun w => rfl⟩
    · exact h.elim

end Go.Sep
