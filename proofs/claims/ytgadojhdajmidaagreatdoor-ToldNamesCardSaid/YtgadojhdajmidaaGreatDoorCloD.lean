/- Regions that draw their order: what is asked of them, and one order to run them in. -/
import Derived.Test.YtgadojhdajmidaaGreatDoorCloC
import Derived.Orders
set_option linter.unusedSimpArgs false
set_option linter.unusedVariables false
namespace Go.Sep

/-! ### Kinds -/

/-- 0: changes nothing; 1: makes a block; 2: all others. -/
def knd (op : Op) : Nat :=
  match op with
  | .move _ | .load .. | .nilCheck _ | .binOp .. | .unOp .. | .convert .. | .makeInterface .. | .makeFunc .. | .slice .. | .fieldAddr .. | .field .. | .indexAddr .. | .index .. | .extract .. | .build .. | .pick .. => 0
  | .typeAssert _ _ _ true => 0
  | .call { callee := .builtin .len, .. } | .call { callee := .builtin .max, .. } | .call { callee := .builtin .min, .. } => 0
  | .alloc _ | .makeSlice .. | .makeMap _ none => 1
  | _ => 2

noncomputable def stP (T : Nat → Option TInf) (op : Op) (vs : List Value) (τ : VH) : Option Value :=
  match op with
  | .pick .. => (match vs with | [.bool b, x, y] => some (bif b then x else y) | _ => none)
  | _ => stV T op vs τ

theorem opC_st {T : Nat → Option TInf} {call : CallT} {op : Op} {vs : List Value} {τ : VH} {v : Value} (hk : knd op = 0) (h : stP T op vs τ = some v) : opC T call op vs τ = some (true, v, τ) := by
  have key : ∀ {o : Option Value}, o = some v → (match (match o with | some v => some (v, τ) | none => none) with | some (v, τ) => some (true, v, τ) | none => none) = some (true, v, τ) := by
    intro o h; rw [h]
  cases op with
  | pick c a b =>
    simp only [stP] at h
    simp only [opC]
    split at h
    · cases h; rfl
    · cases h
  | call c =>
    obtain ⟨callee, args, ats⟩ := c
    cases callee with
    | builtin b => cases b <;> first | exact key h | (simp [knd] at hk)
    | value f => simp [knd] at hk
    | invoke r m => simp [knd] at hk
  | makeMap t r => cases r <;> simp [knd] at hk
  | _ => first | exact key h | (simp [knd] at hk)

/-- A new block's value and row. -/
noncomputable def alV (T : Nat → Option TInf) (op : Op) (vs : List Value) (m : Nat) : Option (Value × VRow) :=
  match op with
  | .alloc t => (match T t with
    | some i => bif allS i.zval.cells.toList then fN (lenL i.zval.cells.toList) fun n => some (.pointer (some ⟨m, 0, none⟩), .own t (upds i.zval.cells.toList .e 0) n 1) else none
    | none => none)
  | .makeSlice t _ _ => (match elemOfSl T t, vs with
    | some e, [.int _ (.ofNat l), .int _ (.ofNat c)] => (match T e with
      | some i => bif Nat.ble i.bytes 4096 && Nat.blt 0 i.size && (Nat.ble l c && Nat.ble c 4294967296) then
          fL (List.replicate c i.zero).flatten fun xs => fN (lenL xs) fun n => some (.slice (some ⟨m, 0, none⟩) l (Nat.mul 2 c), .own e (upds xs .e 0) n 0)
        else none
      | none => none)
    | _, _ => none)
  | .makeMap _ none => some (.map (some m), .map [] 0)
  | _ => none

theorem alV_ok {T : Nat → Option TInf} (hT : TCst T) {ι : Ren} {op : Op} {vs vs' : List Value} {m : Nat} {v0 : Value} {row0 : VRow} {e : Env} (hv : VRs ι vs vs') (he : Vals e (opnds op) vs') (h : alV T op vs m = some (v0, row0)) :
    ∃ (val : Nat → Value) (rowf : Row), (∀ b ι', ι' m = some ⟨b, 0, 0⟩ → VR ι' v0 (val b) ∧ RR T ι' ⟨b, 0, 0⟩ row0 rowf) ∧
      ∀ (σ : SHeap) (K : Value → SHeap → Prop), (∀ b, σ b = none → K (val b) (σ.set b rowf)) → efOp T e op σ K := by
  unfold alV at h
  split at h
  · rename_i t
    split at h
    · rename_i i hi
      rw [allS_eq] at h
      have hz : ∀ ι, VR ι i.zval i.zval := fun ι => hT.zval hi
      cases ha : i.zval.cells.toList.all scal with
      | false => rw [ha] at h; cases h
      | true =>
        rw [ha] at h
        simp only [cond_true, fN_eq, lenL_eq] at h
        cases h
        refine ⟨fun b => .pointer (some ⟨b, 0, none⟩), .own t 0 i.zval.cells.toList 0, fun b ι' hm => ⟨.ptr hm, ?_⟩, fun σ K hK => ?_⟩
        · exact RR.newF hi (hz ι').cells b rfl
        · refine optW_of hi ⟨?_, hK⟩
          rw [← Array.all_toList, ha]
    · cases h
  · rename_i t lo co
    split at h
    · rename_i e' kl l kc c he'
      obtain ⟨l', c', rfl, h1, h2⟩ := hv.two
      cases h1; cases h2
      split at h
      · rename_i i hi
        cases hq : (Nat.ble i.bytes 4096 && Nat.blt 0 i.size && (Nat.ble l c && Nat.ble c 4294967296)) with
        | false => rw [hq] at h; cases h
        | true =>
          rw [hq] at h
          simp only [cond_true, fL_eq, fN_eq, lenL_eq] at h
          cases h
          rw [Bool.and_eq_true, Bool.and_eq_true (Nat.ble l c)] at hq
          have g1 := Nat.le_of_ble_eq_true hq.2.1
          have g2 := Nat.le_of_ble_eq_true hq.2.2
          refine ⟨fun b => .slice (some ⟨b, 0, none⟩) l c, .own e' 0 (List.replicate c i.zero).flatten 0, fun b ι' hm => ⟨?_, ?_⟩, fun σ K hK => ?_⟩
          · have h3 : VR ι' (.slice (some ⟨m, 0, none⟩) l (Nat.mul 2 c)) (.slice (some ⟨b, 0 + 0, none⟩) l (capA (Nat.mul 2 c) 0)) := .slice hm
            rw [capA_even] at h3
            exact h3
          · have hz : VRs ι' (List.replicate c i.zero).flatten (List.replicate c i.zero).flatten :=
              (SegR.csts fun x hx => by rw [(List.mem_replicate.1 hx).2]; exact hT e' i hi).flat
            have hrr := RR.new hi hz b 0 0 rfl
            rw [Nat.zero_mul] at hrr
            exact hrr
          · refine optW_of he.two.1 (optW_of he.two.2 (optW_of he' (optW_of hi ?_)))
            rw [hq.1]
            simp only [cond_true, asI]
            exact ⟨by simp only [Int.ofNat_eq_natCast]; omega, by simp only [Int.ofNat_eq_natCast]; omega, by simp only [Int.ofNat_eq_natCast]; omega, hK⟩
      · cases h
    · cases h
  · cases h
    exact ⟨fun b => .map (some b), .obj (.map #[] 0), fun b ι' hm => ⟨VR.map hm, ⟨[], rfl, trivial, rfl⟩⟩, fun σ K hK => hK⟩
  · cases h

/-- A block that was made in the closed run is made in the machine. -/
theorem HR.real {T : Nat → Option TInf} {ι : Ren} {τ : VH} {σ : SHeap} (hr : HR T ι τ σ) {m b : Nat} (hm : ι m = none) (hlt : m < τ.next) {row : VRow} (hrow : τ.rows.get m = some row) (hb : σ b = none) {r' : Row}
    (h : RR T (ι.add m ⟨b, 0, 0⟩) ⟨b, 0, 0⟩ row r') : RLe ι (ι.add m ⟨b, 0, 0⟩) ∧ HR T (ι.add m ⟨b, 0, 0⟩) τ (σ.set b r') := by
  have hle : RLe ι (ι.add m ⟨b, 0, 0⟩) := fun c j hc => by
    have : c ≠ m := fun e => by subst e; rw [hm] at hc; cases hc
    rw [Ren.add_ne _ _ this]; exact hc
  have key : ∀ {c j}, c ≠ m → ι.add m ⟨b, 0, 0⟩ c = some j → τ.rows.get c ≠ none → j.blk ≠ b := by
    intro c j hcm hc hx e
    rw [Ren.add_ne _ _ hcm] at hc
    cases hxx : τ.rows.get c with
    | none => exact hx hxx
    | some x =>
      obtain ⟨y, h1, _⟩ := hr.rows c j x hc hxx
      rw [e, hb] at h1; cases h1
  refine ⟨hle, ⟨fun c j x hc hx => ?_, fun c d j k hc hd hxc hxd hjk => ?_, fun c j hc => ?_, hr.top, fun c g n t hc => ?_⟩⟩
  · by_cases hcm : c = m
    · subst hcm
      rw [Ren.add_same] at hc; cases hc
      rw [hrow] at hx; cases hx
      exact ⟨r', SHeap.set_same .., h⟩
    · have h0 := key hcm hc (by rw [hx]; simp)
      rw [Ren.add_ne _ _ hcm] at hc
      obtain ⟨y, h1, h2⟩ := hr.rows c j x hc hx
      exact ⟨y, by rw [SHeap.set_ne _ _ h0]; exact h1, h2.mono hle⟩
  · by_cases hcm : c = m
    · by_cases hdm : d = m
      · rw [hcm, hdm]
      · have h1 := key hdm hd hxd
        subst hcm
        rw [Ren.add_same] at hc; cases hc
        exact absurd hjk.symm h1
    · by_cases hdm : d = m
      · have h1 := key hcm hc hxc
        subst hdm
        rw [Ren.add_same] at hd; cases hd
        exact absurd hjk h1
      · rw [Ren.add_ne _ _ hcm] at hc
        rw [Ren.add_ne _ _ hdm] at hd
        exact hr.inj c d j k hc hd hxc hxd hjk
  · by_cases hcm : c = m
    · omega
    · rw [Ren.add_ne _ _ hcm] at hc
      exact hr.dom c j hc
  · by_cases hcm : c = m
    · subst hcm; rw [Ren.add_same]; simp
    · rw [Ren.add_ne _ _ hcm]; exact hr.fixd c g n t hc

def isFix : VRow → Bool
  | .fix .. => true
  | _ => false

theorem alV_nofix {T : Nat → Option TInf} {op : Op} {vs : List Value} {m : Nat} {v : Value} {row : VRow} (h : alV T op vs m = some (v, row)) : isFix row = false := by
  unfold alV at h
  split at h
  · split at h
    · rename_i i hi
      cases hb : allS i.zval.cells.toList with
      | false => rw [hb] at h; cases h
      | true => rw [hb] at h; simp only [cond_true, fN_eq] at h; cases h; rfl
    · cases h
  · split at h
    · rename_i e kl l kc c he
      split at h
      · rename_i i hi
        cases hb : (Nat.ble i.bytes 4096 && Nat.blt 0 i.size && (Nat.ble l c && Nat.ble c 4294967296)) with
        | false => rw [hb] at h; cases h
        | true => rw [hb] at h; simp only [cond_true, fN_eq, fL_eq] at h; cases h; rfl
      · cases h
    · cases h
  · cases h; rfl
  · cases h

theorem HR.ahead {T : Nat → Option TInf} {ι : Ren} {τ : VH} {σ : SHeap} (hr : HR T ι τ σ) (row : VRow) (hnf : isFix row = false) : Ext ι τ ι (τ.add row) ∧ HR T ι (τ.add row) σ := by
  have get : ∀ c, c ≠ τ.next → (τ.add row).rows.get c = τ.rows.get c := fun c hc => HT.upd_ne _ _ hc
  have ne : ∀ c j, ι c = some j → c ≠ τ.next := fun c j hc => by have := hr.dom c j hc; omega
  refine ⟨⟨RLe.refl ι, fun c hc hn => ⟨hn, get c (by omega)⟩, Nat.le_succ _⟩, ⟨fun c j x hc hx => ?_, fun c d j k hc hd hxc hxd hjk => ?_, fun c j hc => ?_, fun c hc => ?_, fun c g n t hc => ?_⟩⟩
  · rw [get c (ne c j hc)] at hx; exact hr.rows c j x hc hx
  · rw [get c (ne c j hc)] at hxc; rw [get d (ne d k hd)] at hxd; exact hr.inj c d j k hc hd hxc hxd hjk
  · have := hr.dom c j hc; show c < τ.next + 1; omega
  · have : τ.next + 1 ≤ c := hc
    rw [get c (by omega)]; exact hr.top c (by omega)
  · by_cases hcn : c = τ.next
    · subst hcn
      have hc' : (τ.rows.upd (some row) τ.next).get τ.next = some (.fix g n t) := hc
      rw [HT.upd_same] at hc'; cases hc'; cases hnf
    · rw [get c hcn] at hc; exact hr.fixd c g n t hc

/-! ### What hangs on what -/

def preOf (o : Oper) : List Nat := (o.after.toList.filter fun e => Region.binds .any e).map (·.on)
def pre (ops : Array Oper) (i : Nat) : List Nat := match ops[i]? with | some o => preOf o | none => []

def tmpOf : Operand → Option Nat
  | .tmp t => some t
  | _ => none

def gtmp (ops : Array Oper) (o : Oper) : Option Nat := match o.guard with | some (j, _) => (ops[j]?).bind (·.dst) | none => none

/-- The temporaries that an operation reads. -/
def rds (ops : Array Oper) (o : Oper) : List Nat := (opnds o.op).filterMap tmpOf ++ (gtmp ops o).toList

/-- k is behind i on every way that i's operations ahead are laid. -/
def Star (ops : Array Oper) (i k : Nat) : Prop := ∀ C : Nat → Prop, (∀ a, C a → ∀ j ∈ pre ops a, C j) → (∀ j ∈ pre ops i, C j) → C k

structure SOk (ops : Array Oper) : Prop where
  dst : ∀ i o, ops[i]? = some o → knd o.op ≤ 1 → ∃ d, o.dst = some d ∧ d ∉ rds ops o ∧ ∀ (j : Nat) (o' : Oper), ops[j]? = some o' → o'.dst = some d → j = i
  rd : ∀ i o k o' t, ops[i]? = some o → ops[k]? = some o' → t ∈ rds ops o → o'.dst = some t → knd o'.op ≤ 1 → k ≠ i → Star ops i k
  rd2 : ∀ i o k o' t, ops[i]? = some o → ops[k]? = some o' → t ∈ rds ops o → o'.dst = some t → k ≠ i → Star ops i k ∨ Star ops k i

def bit (i : Nat) : Nat := Nat.shiftLeft 1 i
def hasB (m i : Nat) : Bool := Nat.testBit m i

def maskOf (l : List Nat) : Nat := l.foldr (fun i m => Nat.lor (bit i) m) 0

theorem hasB_mask (l : List Nat) (k : Nat) : hasB (maskOf l) k = decide (k ∈ l) := by
  induction l with
  | nil => simp [maskOf, hasB]
  | cons i l ih =>
    show Nat.testBit (bit i ||| maskOf l) k = _
    rw [Nat.testBit_or]
    have ih' : Nat.testBit (maskOf l) k = decide (k ∈ l) := ih
    rw [ih']
    have : Nat.testBit (bit i) k = decide (k = i) := by
      show Nat.testBit (1 <<< i) k = _
      rw [Nat.one_shiftLeft, Nat.testBit_two_pow]
      by_cases h : i = k
      · simp [h]
      · have h2 : ¬ k = i := fun e => h e.symm
        simp [h, h2]
    rw [this]
    by_cases h : k = i <;> simp [h]

/-- The masks of all that is ahead, operation by operation. -/
def starsGo (acc : List Nat) : List Oper → List Nat
  | [] => acc
  | o :: l => starsGo (acc ++ [(preOf o).foldr (fun j m => Nat.lor (Nat.lor (bit j) (acc.getD j 0)) m) 0]) l

def stars (ops : Array Oper) : List Nat := starsGo [] ops.toList

theorem stars_go (ops : Array Oper) : ∀ (l : List Oper) (acc : List Nat), ops.toList.drop acc.length = l →
    (∀ i m, acc[i]? = some m → ∀ k, hasB m k = true → Star ops i k) → ∀ i m, (starsGo acc l)[i]? = some m → ∀ k, hasB m k = true → Star ops i k := by
  intro l
  induction l with
  | nil => intro acc _ h; exact h
  | cons o l ih =>
    intro acc hd h
    refine ih _ ?_ ?_
    · simp only [List.length_append, List.length_singleton]
      have := congrArg List.tail hd
      simpa [List.tail_drop] using this
    · intro i m hi k hk
      rw [List.getElem?_append] at hi
      split at hi
      · exact h i m hi k hk
      · rename_i hlt
        have hi0 : i = acc.length := by
          by_cases h0 : i - acc.length = 0
          · omega
          · rw [List.getElem?_eq_none (by simp; omega)] at hi; cases hi
        subst hi0
        simp only [Nat.sub_self, List.getElem?_cons_zero, Option.some.injEq] at hi
        have ho : ops[acc.length]? = some o := by
          have : (ops.toList.drop acc.length)[0]? = some o := by rw [hd]; rfl
          simpa using this
        subst hi
        intro C hcl hC
        have hpre : pre ops acc.length = preOf o := by simp [pre, ho]
        rw [hpre] at hC
        have : ∀ (q : List Nat), (∀ j ∈ q, C j) → hasB (q.foldr (fun j m => Nat.lor (Nat.lor (bit j) (acc.getD j 0)) m) 0) k = true → C k := by
          intro q
          induction q with
          | nil => intro _ hq; simp [hasB] at hq
          | cons j q ihq =>
            intro hq hb
            have hb' : Nat.testBit ((bit j ||| acc.getD j 0) ||| q.foldr (fun j m => Nat.lor (Nat.lor (bit j) (acc.getD j 0)) m) 0) k = true := hb
            rw [Nat.testBit_or, Nat.testBit_or, Bool.or_eq_true, Bool.or_eq_true] at hb'
            rcases hb' with (hb1 | hb1) | hb1
            · have : Nat.testBit (1 <<< j) k = true := hb1
              rw [Nat.one_shiftLeft, Nat.testBit_two_pow] at this
              have : j = k := by simpa using this
              subst this; exact hq j (by simp)
            · cases ha : acc[j]? with
              | none => simp [List.getD, ha] at hb1
              | some m =>
                simp [List.getD, ha] at hb1
                exact h j m ha k hb1 C hcl (hcl j (hq j (by simp)))
            · exact ihq (fun j hj => hq j (by simp [hj])) hb1
        exact this _ hC hk

theorem stars_ok {ops : Array Oper} {i m k : Nat} (h : (stars ops)[i]? = some m) (hk : hasB m k = true) : Star ops i k :=
  stars_go ops ops.toList [] (by simp) (by simp) i m h k hk

end Go.Sep
