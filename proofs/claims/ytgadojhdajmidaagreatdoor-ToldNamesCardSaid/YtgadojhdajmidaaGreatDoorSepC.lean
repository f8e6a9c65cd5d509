/- What single operations of the model's code need and give, as propositions over a symbolic heap (values in continuation form), and that they run so. -/
import Derived.Test.YtgadojhdajmidaaGreatDoorSepB
import Derived.IntWalk
set_option linter.unusedSimpArgs false
set_option linter.unusedVariables false
namespace Go.Sep

/-! ### Types -/

inductive TD where
  | bool | int (k : IntKind) | string | ptr (e : Nat) | slice (e : Nat) | arr (n e : Nat) | map (k e : Nat) | struct (fs : List (Nat × Nat)) | func | iface (plain : Bool) | tuple | uptr
  deriving DecidableEq

structure TInf where
  size : Nat
  bytes : Nat
  desc : TD
  zero : List Value
  lies : List (Nat × Nat)
  cmp : Bool

def TD.fits : TD → TypeDesc → Bool
  | .bool, .bool | .string, .string | .func, .func .. | .tuple, .tuple _ | .uptr, .unsafePointer => true
  | .iface b, .interface ms => b == ms.isEmpty
  | .int k, .int k' => k == k'
  | .ptr e, .pointer e' | .slice e, .slice e' => e == e'
  | .arr n e, .array n' e' => n == n' && e == e'
  | .map k e, .map k' e' => k == k' && e == e'
  | .struct fs, .struct gs => fs == gs.toList.map fun f => (f.offset, f.type)
  | _, _ => false

def TD.isAgg : TD → Bool
  | .struct _ | .arr .. => true
  | _ => false

def TInf.zval (i : TInf) : Value := bif i.desc.isAgg then .agg i.zero.toArray else i.zero.headD (.tuple #[])

structure TInf.ok (P : Program) (t : Nat) (i : TInf) : Prop where
  info : ∃ ti, P.info? t = some ti ∧ ti.size = i.size ∧ ti.bytes = i.bytes
  under : ∃ d, P.underlying t = some d ∧ i.desc.fits d = true
  zero : ∀ w, (zeroValue t).run P w = .ok i.zval w
  zcell : i.zval.cells = i.zero.toArray
  zsize : i.zero.length = i.size
  zscal : ∀ v ∈ i.zero, scal v = true
  lies : ∀ p ∈ i.lies, liesAt P P.depth t 1 p.1 p.2 1 = true
  cmp : i.cmp = true → P.stoodInHeld t = false ∧ P.eqGuardType P.depth t = false ∧ ∀ fs, P.underlying t = some (.struct fs) → ∀ f ∈ fs.toList, f.name ≠ "_"

def TOk (P : Program) (T : Nat → Option TInf) : Prop := ∀ t i, T t = some i → i.ok P t

def optW {α : Type} (o : Option α) (K : α → Prop) : Prop := match o with | some a => K a | none => False

theorem optW_some {α : Type} {o : Option α} {K : α → Prop} (h : optW o K) : ∃ a, o = some a ∧ K a := by
  cases o with
  | none => exact h.elim
  | some a => exact ⟨a, rfl, h⟩

/-! ### Shapes of values -/

def asB (v : Value) (K : Bool → Prop) : Prop := match v with | .bool b => K b | _ => False
def asI (v : Value) (K : IntKind → Int → Prop) : Prop := match v with | .int k n => K k n | _ => False
def asS (v : Value) (K : ByteArray → Prop) : Prop := match v with | .string s => K s | _ => False
def asP (v : Value) (K : Addr → Prop) : Prop := match v with | .pointer (some a) => K a | _ => False
def asSl (v : Value) (K : Option Addr → Nat → Nat → Prop) : Prop := match v with | .slice a l c => K a l c | _ => False
def asAg (v : Value) (K : Array Value → Prop) : Prop := match v with | .agg cs => K cs | _ => False
def asTp (v : Value) (K : Array Value → Prop) : Prop := match v with | .tuple cs => K cs | _ => False

theorem asB_elim {v : Value} {K : Bool → Prop} (h : asB v K) : ∃ b, v = .bool b ∧ K b := by
  cases v with
  | bool b => exact ⟨_, rfl, h⟩
  | _ => exact h.elim
theorem asI_elim {v : Value} {K : IntKind → Int → Prop} (h : asI v K) : ∃ k n, v = .int k n ∧ K k n := by
  cases v with
  | int k n => exact ⟨_, _, rfl, h⟩
  | _ => exact h.elim
theorem asS_elim {v : Value} {K : ByteArray → Prop} (h : asS v K) : ∃ b, v = .string b ∧ K b := by
  cases v with
  | string b => exact ⟨_, rfl, h⟩
  | _ => exact h.elim
theorem asP_elim {v : Value} {K : Addr → Prop} (h : asP v K) : ∃ b, v = .pointer (some b) ∧ K b := by
  cases v with
  | pointer b => cases b with
    | none => exact h.elim
    | some a => exact ⟨_, rfl, h⟩
  | _ => exact h.elim
theorem asSl_elim {v : Value} {K : Option Addr → Nat → Nat → Prop} (h : asSl v K) : ∃ a l c, v = .slice a l c ∧ K a l c := by
  cases v with
  | slice a l c => exact ⟨_, _, _, rfl, h⟩
  | _ => exact h.elim
theorem asAg_elim {v : Value} {K : Array Value → Prop} (h : asAg v K) : ∃ b, v = .agg b ∧ K b := by
  cases v with
  | agg b => exact ⟨_, rfl, h⟩
  | _ => exact h.elim
theorem asTp_elim {v : Value} {K : Array Value → Prop} (h : asTp v K) : ∃ b, v = .tuple b ∧ K b := by
  cases v with
  | tuple b => exact ⟨_, rfl, h⟩
  | _ => exact h.elim

/-- A value out of one cell, seen by its type. -/
def tyV (d : TD) (o : Option Value) (K : Value → Prop) : Prop :=
  match d with
  | .bool => match o with | some (.bool b) => K (.bool b) | _ => False
  | .int k => match o with | some (.int k' n) => bif decide (k' = k) then K (.int k n) else False | _ => False
  | .string => match o with | some (.string s) => K (.string s) | _ => False
  | .ptr _ => match o with | some (.pointer p) => K (.pointer p) | _ => False
  | .slice _ => match o with | some (.slice a l c) => K (.slice a l c) | _ => False
  | .map .. => match o with | some (.map r) => K (.map r) | _ => False
  | _ => match o with | some v => K v | none => False

theorem tyV_elim {d : TD} {o : Option Value} {K : Value → Prop} (h : tyV d o K) : ∃ v, o = some v ∧ K v := by
  cases o with
  | none => cases d <;> exact h.elim
  | some v =>
    refine ⟨v, rfl, ?_⟩
    cases d with
    | int k =>
      cases v with
      | int k' n =>
        simp only [tyV] at h
        cases hk : decide (k' = k) with
        | false => rw [hk] at h; exact h.elim
        | true => rw [hk] at h; have := of_decide_eq_true hk; subst this; exact h
      | _ => exact h.elim
    | bool | string | ptr | slice | map => cases v <;> first | exact h | exact h.elim
    | _ => exact h

def hd1 (o : Option (List Value)) : Option Value := match o with | some [v] => some v | _ => none

/-- A variable read. -/
def ldW (T : Nat → Option TInf) (t : Nat) (a : Addr) (σ : SHeap) (K : Value → Prop) : Prop :=
  optW (T t) fun i => bif i.desc.isAgg then optW (σ.ld a i.size) (fun l => K (.agg l.toArray)) else tyV i.desc (hd1 (σ.ld a 1)) K

theorem hd1_some {o : Option (List Value)} {v : Value} (h : hd1 o = some v) : o = some [v] := by
  unfold hd1 at h
  split at h <;> simp_all

def dAgg : TypeDesc → Bool
  | .struct _ | .array _ _ => true
  | _ => false

theorem fits_agg {i : TInf} {d : TypeDesc} (h : i.desc.fits d = true) : dAgg d = i.desc.isAgg := by
  cases hd : i.desc <;> rw [hd] at h <;> cases d <;> first | rfl | cases h

theorem run_typeInfo {P : Program} {t : Nat} {ti : TypeInfo} (h : P.info? t = some ti) (w : World) : (typeInfo t).run P w = .ok ti w := by
  simp [typeInfo, program, Sem.run, h]

theorem run_underlying {P : Program} {t : Nat} {d : TypeDesc} (h : P.underlying t = some d) (w : World) : (underlying t).run P w = .ok d w := by
  simp [underlying, program, Sem.run, h]

theorem run_sizeOf {P : Program} {t : Nat} {i : TInf} (h : i.ok P t) (w : World) : (sizeOf t).run P w = .ok i.size w := by
  obtain ⟨ti, h1, h2, _⟩ := h.info
  simp [sizeOf, run_typeInfo h1, h2]

theorem run_isAgg {P : Program} {t : Nat} {i : TInf} (h : i.ok P t) (w : World) : (isAgg t).run P w = .ok i.desc.isAgg w := by
  obtain ⟨d, h1, h2⟩ := h.under
  rw [← fits_agg h2]
  simp only [isAgg, Sem.run_bind, run_underlying h1, Result.andThen_ok]
  cases d <;> rfl

theorem run_load1 {P : Program} {σ : SHeap} {w : World} (hs : Sat w σ) {a : Addr} {v : Value} (h : σ.ld a 1 = some [v]) : (load a).run P w = .ok v w := by
  have := SHeap.ld_cells hs h 0 v rfl
  rw [show a.add 0 = a from rfl] at this
  simp [load, Sem.run, this]

theorem ldW_ok {P : Program} {T : Nat → Option TInf} (hT : TOk P T) {t : Nat} {a : Addr} {σ : SHeap} {K : Value → Prop} (h : ldW T t a σ K) :
    ∃ v, K v ∧ ∀ w, Sat w σ → (loadVar t a).run P w = .ok v w := by
  obtain ⟨i, hi, h⟩ := optW_some h
  have hok := hT t i hi
  cases hag : i.desc.isAgg with
  | true =>
    rw [hag] at h
    obtain ⟨l, hl, hk⟩ := optW_some h
    exact ⟨_, hk, fun w hs => by simp [loadVar, run_isAgg hok, hag, run_sizeOf hok, run_loadCells hs hl]⟩
  | false =>
    rw [hag] at h
    obtain ⟨v, hv, hk⟩ := tyV_elim h
    exact ⟨v, hk, fun w hs => by simp only [loadVar, Sem.run_bind, run_isAgg hok, Result.andThen_ok, hag]; exact run_load1 hs (hd1_some hv)⟩

/-- A variable written. -/
def stW (T : Nat → Option TInf) (t : Nat) (a : Addr) (v : Value) (σ : SHeap) (K : SHeap → Prop) : Prop :=
  optW (T t) fun i => v.cells.size = i.size ∧ (v.cells.all scal = true) ∧ optW (σ.st a v.cells.toList) K

theorem stW_ok {P : Program} {T : Nat → Option TInf} (hT : TOk P T) {t : Nat} {a : Addr} {v : Value} {σ : SHeap} {K : SHeap → Prop} (h : stW T t a v σ K) :
    ∃ σ', K σ' ∧ ∀ w, Sat w σ → ∃ w', (storeVar t a v).run P w = .ok () w' ∧ Sat w' σ' ∧ Fr σ σ' w w' := by
  obtain ⟨i, hi, hsz, hsc, h⟩ := optW_some h
  obtain ⟨σ', hst, hk⟩ := optW_some h
  refine ⟨σ', hk, fun w hs => ?_⟩
  obtain ⟨w', hr, h1, h2⟩ := run_storeCells (P := P) hs hst (fun x hx => Array.all_eq_true_iff_forall_mem.1 hsc x (Array.mem_toList_iff.1 hx))
  exact ⟨w', by simp [storeVar, run_sizeOf (hT t i hi), hsz, hr], h1, h2⟩

/-- A new variable. -/
def newW (t : Nat) (v : Value) (σ : SHeap) (K : Value → SHeap → Prop) : Prop :=
  v.cells.all scal = true ∧ ∀ b, σ b = none → K (.pointer (some ⟨b, 0, none⟩)) (σ.set b (.own t 0 v.cells.toList 0))

theorem newW_ok {P : Program} {t : Nat} {v : Value} {σ : SHeap} {K : Value → SHeap → Prop} (h : newW t v σ K) {w : World} (hs : Sat w σ) :
    ∃ b w' σ', K (.pointer (some b)) σ' ∧ (newVar t v).run P w = .ok b w' ∧ Sat w' σ' ∧ Fr σ σ' w w' := by
  obtain ⟨hsc, hk⟩ := h
  have hsc' : ∀ x ∈ v.cells.toList, scal x = true := fun x hx => Array.all_eq_true_iff_forall_mem.1 hsc x (Array.mem_toList_iff.1 hx)
  obtain ⟨w', hr, hf, h1, h2⟩ := run_newObj (P := P) hs (.cells v.cells t) (.own t 0 v.cells.toList 0)
    (fun w' hw => sat_own_new _ 0 (by simp) (fun i v hv => by simpa using hv) hsc' hw)
  exact ⟨_, w', _, hk _ hf, by simp [newVar, newRow, hr], h1, h2⟩

end Go.Sep
