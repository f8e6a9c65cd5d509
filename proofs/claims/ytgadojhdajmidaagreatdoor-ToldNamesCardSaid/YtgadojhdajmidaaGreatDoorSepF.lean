/- Addresses, parts, slices: operations that change nothing. -/
import Derived.Test.YtgadojhdajmidaaGreatDoorSepE
set_option linter.unusedSimpArgs false
set_option linter.unusedVariables false
namespace Go.Sep

theorem fieldsOf_some {P : Program} {T : Nat → Option TInf} (hT : TOk P T) {t : Nat} {fs : List (Nat × Nat)} (h : fieldsOf T t = some fs) :
    ∃ gs, (∀ w, (underlying t).run P w = .ok (.struct gs) w) ∧ fs = gs.toList.map fun f => (f.offset, f.type) := by
  unfold fieldsOf at h
  cases hi : T t with
  | none => simp [hi] at h
  | some i =>
    simp only [hi] at h
    cases hd : i.desc <;> rw [hd] at h <;> first | (cases h; done) | skip
    cases h
    obtain ⟨d, h1, h2⟩ := (hT t i hi).under
    rw [hd] at h2
    cases d <;> simp [TD.fits] at h2
    exact ⟨_, fun w => run_underlying h1 w, h2⟩

theorem elemOfSl_some {P : Program} {T : Nat → Option TInf} (hT : TOk P T) {t e : Nat} (h : elemOfSl T t = some e) :
    ∀ w, (underlying t).run P w = .ok (.slice e) w := by
  unfold elemOfSl at h
  cases hi : T t with
  | none => simp [hi] at h
  | some i =>
    simp only [hi] at h
    cases hd : i.desc <;> rw [hd] at h <;> first | cases h | skip
    obtain ⟨d, h1, h2⟩ := (hT t i hi).under
    rw [hd] at h2
    cases d <;> simp [TD.fits] at h2
    subst h2
    exact fun w => run_underlying h1 w

theorem sizeT_some {P : Program} {T : Nat → Option TInf} (hT : TOk P T) {t n : Nat} (h : sizeT T t = some n) : ∀ w, (sizeOf t).run P w = .ok n w := by
  unfold sizeT at h
  cases hi : T t with
  | none => simp [hi] at h
  | some i => simp [hi] at h; subst h; exact fun w => run_sizeOf (hT t i hi) w

/-- The address of a field. -/
def fadW (T : Nat → Option TInf) (s : Nat) (x : Value) (f : Nat) (K : Value → Prop) : Prop :=
  optW (fieldsOf T s) fun fs => optW fs[f]? fun g => optW (sizeT T g.2) fun n => bif Nat.blt 0 n then asP x fun a => K (.pointer (some (a.add g.1))) else False

theorem fadW_ok {P : Program} {T : Nat → Option TInf} (hT : TOk P T) {s : Nat} {x : Value} {f : Nat} {K : Value → Prop} (h : fadW T s x f K) :
    ∃ v, K v ∧ ∀ w, (Instr.fieldAt s x f).run P w = .ok v w := by
  obtain ⟨fs, hfs, h⟩ := optW_some h
  obtain ⟨g, hg, h⟩ := optW_some h
  obtain ⟨n, hn, h⟩ := optW_some h
  cases hb : Nat.blt 0 n with
  | false => rw [hb] at h; exact h.elim
  | true =>
    rw [hb] at h
    obtain ⟨a, rfl, hk⟩ := asP_elim h
    obtain ⟨gs, hu, rfl⟩ := fieldsOf_some hT hfs
    have hn0 : 0 < n := Nat.le_of_ble_eq_true hb
    rw [List.getElem?_map] at hg
    cases hgf : gs.toList[f]? with
    | none => rw [hgf] at hg; cases hg
    | some ff =>
      rw [hgf] at hg
      cases hg
      have hgf' : gs[f]? = some ff := by simpa using hgf
      refine ⟨_, hk, fun w => ?_⟩
      simp only [Instr.fieldAt, Sem.run_bind, hu, Result.andThen_ok, hgf', Instr.sureAddr, Sem.run_pure, fieldPlace, sizeT_some hT hn]
      rw [if_neg (by omega)]; rfl

/-- A field of a value. -/
def fldW (T : Nat → Option TInf) (s : Nat) (x : Value) (f : Nat) (K : Value → Prop) : Prop :=
  optW (fieldsOf T s) fun fs => optW fs[f]? fun g => asAg x fun cs => partW T g.2 cs g.1 K

theorem fldW_ok {P : Program} {T : Nat → Option TInf} (hT : TOk P T) {s : Nat} {x : Value} {f : Nat} {K : Value → Prop} (h : fldW T s x f K) :
    ∃ v, K v ∧ ∀ w, (Instr.field s x f).run P w = .ok v w := by
  obtain ⟨fs, hfs, h⟩ := optW_some h
  obtain ⟨g, hg, h⟩ := optW_some h
  obtain ⟨cs, rfl, h⟩ := asAg_elim h
  obtain ⟨v, hv, hr⟩ := run_part (P := P) hT h
  obtain ⟨gs, hu, rfl⟩ := fieldsOf_some hT hfs
  rw [List.getElem?_map] at hg
  cases hgf : gs.toList[f]? with
  | none => rw [hgf] at hg; cases hg
  | some ff =>
    rw [hgf] at hg
    cases hg
    have hgf' : gs[f]? = some ff := by simpa using hgf
    exact ⟨v, hv, fun w => by simp only [Instr.field, Sem.run_bind, hu, Result.andThen_ok, hgf', asAgg, Sem.run_pure, hr]⟩

/-- The address of an element. -/
def iadW (T : Nat → Option TInf) (t : Nat) (x i : Value) (K : Value → Prop) : Prop :=
  optW (T t) fun ti =>
    match ti.desc with
    | .slice e => optW (sizeT T e) fun n => asSl x fun a len _ => asI i fun _ k => 0 ≤ k ∧ k < (len : Int) ∧ optW a fun a => K (.pointer (some (a.add (k.toNat * n))))
    | .arr len e => optW (sizeT T e) fun n => asP x fun a => asI i fun _ k => 0 ≤ k ∧ k < (len : Int) ∧ K (.pointer (some (a.add (k.toNat * n))))
    | _ => False

theorem iadW_ok {P : Program} {T : Nat → Option TInf} (hT : TOk P T) {t : Nat} {x i : Value} {K : Value → Prop} (h : iadW T t x i K) :
    ∃ v, K v ∧ ∀ w, (Instr.indexAt t x i).run P w = .ok v w := by
  obtain ⟨ti, hti, h⟩ := optW_some h
  obtain ⟨d, h1, h2⟩ := (hT t ti hti).under
  have hu := fun w => run_underlying h1 w
  cases hd : ti.desc <;> rw [hd] at h h2 <;> first | exact h.elim | skip
  · cases d <;> simp [TD.fits] at h2
    subst h2
    obtain ⟨n, hn, h⟩ := optW_some h
    obtain ⟨a, len, cap, rfl, h⟩ := asSl_elim h
    obtain ⟨kk, k, rfl, hk0, hk1, h⟩ := asI_elim h
    obtain ⟨a, rfl, hk⟩ := optW_some h
    refine ⟨_, hk, fun w => ?_⟩
    simp only [Instr.indexAt, Sem.run_bind, asIntOf, Sem.run_pure, Result.andThen_ok, hu]
    simp only [hk0, hk1, and_self, if_true, Sem.run_bind, sizeT_some hT hn, Result.andThen_ok]
    rfl
  · cases d <;> simp [TD.fits] at h2
    obtain ⟨h2, h3⟩ := h2
    subst h2 h3
    obtain ⟨n, hn, h⟩ := optW_some h
    obtain ⟨a, rfl, h⟩ := asP_elim h
    obtain ⟨kk, k, rfl, hk0, hk1, hk⟩ := asI_elim h
    refine ⟨_, hk, fun w => ?_⟩
    simp only [Instr.indexAt, Sem.run_bind, asIntOf, Sem.run_pure, Result.andThen_ok, hu, Instr.sureAddr]
    simp only [hk0, hk1, and_self, if_true, Sem.run_bind, sizeT_some hT hn, Result.andThen_ok]
    rfl

/-- An element of a string or an array value. -/
def idxW (T : Nat → Option TInf) (t : Nat) (x i : Value) (K : Value → Prop) : Prop :=
  optW (T t) fun ti =>
    match ti.desc with
    | .string => asS x fun s => asI i fun _ k => 0 ≤ k ∧ k < (s.size : Int) ∧ K (.int .u8 (byteAt s k))
    | .arr len e => optW (sizeT T e) fun n => asAg x fun cs => asI i fun _ k => 0 ≤ k ∧ k < (len : Int) ∧ partW T e cs (k.toNat * n) K
    | _ => False

theorem idxW_ok {P : Program} {T : Nat → Option TInf} (hT : TOk P T) {t : Nat} {x i : Value} {K : Value → Prop} (h : idxW T t x i K) :
    ∃ v, K v ∧ ∀ w, (Instr.index t x i).run P w = .ok v w := by
  obtain ⟨ti, hti, h⟩ := optW_some h
  obtain ⟨d, h1, h2⟩ := (hT t ti hti).under
  have hu := fun w => run_underlying h1 w
  cases hd : ti.desc <;> rw [hd] at h h2 <;> first | exact h.elim | skip
  · cases d <;> simp [TD.fits] at h2
    obtain ⟨s, rfl, h⟩ := asS_elim h
    obtain ⟨kk, k, rfl, hk0, hk1, hk⟩ := asI_elim h
    refine ⟨_, hk, fun w => ?_⟩
    have hlt : k.toNat < s.size := by omega
    have hb : s[k.toNat]? = some s[k.toNat] := by simp [hlt]
    have hv : ((s[k.toNat]).toNat : Int) = byteAt s k := by
      unfold byteAt
      have hl : k.toNat < s.data.toList.length := by simpa using hlt
      rw [List.getD_eq_getElem?_getD, List.getElem?_eq_getElem hl]
      rfl
    simp only [Instr.index, Sem.run_bind, asIntOf, Sem.run_pure, Result.andThen_ok, hu, hk0, if_true, hb, hv]
  · cases d <;> simp [TD.fits] at h2
    obtain ⟨h2, h3⟩ := h2
    subst h2 h3
    obtain ⟨n, hn, h⟩ := optW_some h
    obtain ⟨cs, rfl, h⟩ := asAg_elim h
    obtain ⟨kk, k, rfl, hk0, hk1, h⟩ := asI_elim h
    obtain ⟨v, hv, hr⟩ := run_part (P := P) hT h
    refine ⟨v, hv, fun w => ?_⟩
    simp only [Instr.index, Sem.run_bind, asIntOf, Sem.run_pure, Result.andThen_ok, hu, hk0, hk1, and_self, if_true, sizeT_some hT hn, hr]

/-! ### Slices -/

def bndW (o : Option Value) (dflt : Nat) (top : Nat) (K : Nat → Prop) : Prop :=
  match o with
  | none => K dflt
  | some v => asI v fun _ k => 0 ≤ k ∧ k ≤ (top : Int) ∧ K k.toNat

/-- Where a slice begins that is cut k cells on. -/
def adv (a : Option Addr) (m l k : Nat) : Option Addr := bif Nat.beq l 0 then a else if m = l then a else a.map (·.add k)

def slcW (T : Nat → Option TInf) (t : Nat) (x : Value) (lo hi mx : Option Value) (K : Value → Prop) : Prop :=
  optW (T t) fun ti =>
    match ti.desc with
    | .string =>
      match mx with
      | none => asS x fun s => bndW hi s.size s.size fun h => bndW lo 0 h fun l => K (.string (s.extract l h))
      | some _ => False
    | .slice e => optW (sizeT T e) fun n => asSl x fun a len cap =>
      match mx with
      | none => bndW hi len cap fun h => bndW lo 0 h fun l => K (.slice (adv a cap l (l * n)) (h - l) (cap - l))
      | some _ => bndW mx 0 cap fun m => match hi with | none => False | some _ => bndW hi 0 m fun h => bndW lo 0 h fun l => K (.slice (adv a m l (l * n)) (h - l) (m - l))
    | _ => False

theorem bndW_ok {P : Program} {o : Option Value} {d top : Nat} {K : Nat → Prop} (h : bndW o d top K) :
    ∃ n, K n ∧ (o = none → n = d) ∧ ∀ v, o = some v → ∀ c w, (Instr.sliceBound v top c).run P w = .ok n w := by
  cases o with
  | none => exact ⟨d, h, fun _ => rfl, fun v hv => by cases hv⟩
  | some v =>
    obtain ⟨k, n, rfl, h0, h1, hk⟩ := asI_elim h
    refine ⟨_, hk, fun hn => (by cases hn), fun v hv c w => ?_⟩
    cases hv
    simp [Instr.sliceBound, asIntOf, h0, h1]

theorem bounds_none {P : Program} {b : Bool} {len cap : Nat} {lo hi : Option Value} {K : Nat → Nat → Prop}
    (h : bndW hi len (cap) fun h => bndW lo 0 h fun l => K l h) : ∃ l h', K l h' ∧ ∀ w, (Instr.sliceBounds b len cap lo hi none).run P w = .ok (l, h', cap) w := by
  obtain ⟨hh, h, hd, hr⟩ := bndW_ok (P := P) h
  obtain ⟨l, hk, hd2, hr2⟩ := bndW_ok (P := P) h
  refine ⟨l, hh, hk, fun w => ?_⟩
  cases hi with
  | none =>
    cases lo with
    | none => simp [Instr.sliceBounds, hd rfl, hd2 rfl]
    | some v => simp [Instr.sliceBounds, ← hd rfl, hr2 v rfl]
  | some u =>
    cases lo with
    | none => simp [Instr.sliceBounds, hr u rfl, hd2 rfl]
    | some v => simp [Instr.sliceBounds, hr u rfl, hr2 v rfl]

theorem adv_eq (a : Option Addr) (m l n : Nat) : (if m = l then a else a.map (·.add (l * n))) = adv a m l (l * n) := by
  unfold adv
  by_cases hl : l = 0
  · subst hl
    have hadd : ∀ x : Addr, x.add 0 = x := fun x => rfl
    simp [hadd]
  · rw [nbeq_ne hl]; rfl

theorem slcW_ok {P : Program} {T : Nat → Option TInf} (hT : TOk P T) {t : Nat} {x : Value} {lo hi mx : Option Value} {K : Value → Prop} (h : slcW T t x lo hi mx K) :
    ∃ v, K v ∧ ∀ w, (Instr.sliceAt t x lo hi mx).run P w = .ok v w := by
  obtain ⟨ti, hti, h⟩ := optW_some h
  obtain ⟨d, h1, h2⟩ := (hT t ti hti).under
  have hu := fun w => run_underlying h1 w
  cases hd : ti.desc <;> rw [hd] at h h2 <;> first | exact h.elim | skip
  · cases d <;> simp [TD.fits] at h2
    cases mx with
    | some _ => exact h.elim
    | none =>
      obtain ⟨s, rfl, h⟩ := asS_elim h
      obtain ⟨l, hh, hk, hr⟩ := bounds_none (P := P) (b := false) (K := fun l h => K (.string (s.extract l h))) h
      refine ⟨_, hk, fun w => ?_⟩
      simp only [Instr.sliceAt, Sem.run_bind, hu, Result.andThen_ok, Instr.slice, Option.isSome_none, Bool.false_eq_true, if_false, hr]
      rfl
  · cases d <;> simp [TD.fits] at h2
    subst h2
    obtain ⟨n, hn, h⟩ := optW_some h
    obtain ⟨a, len, cap, rfl, h3⟩ := asSl_elim h
    cases mx with
    | none =>
      obtain ⟨l, hh, hk, hr⟩ := bounds_none (P := P) (b := true) (K := fun l h => K (.slice (adv a cap l (l * n)) (h - l) (cap - l))) h3
      refine ⟨_, hk, fun w => ?_⟩
      simp only [Instr.sliceAt, Sem.run_bind, hu, Result.andThen_ok, Instr.slice, hr, sizeT_some hT hn, adv_eq]
      rfl
    | some mv =>
      obtain ⟨m, h4, _, hrm⟩ := bndW_ok (P := P) h3
      cases hi with
      | none => exact h4.elim
      | some hv =>
        obtain ⟨hh, h5, _, hrh⟩ := bndW_ok (P := P) h4
        obtain ⟨l, hk, hd2, hrl⟩ := bndW_ok (P := P) h5
        refine ⟨_, hk, fun w => ?_⟩
        cases lo with
        | none =>
          simp only [Instr.sliceAt, Sem.run_bind, hu, Result.andThen_ok, Instr.slice, Instr.sliceBounds, hrm mv rfl, hrh hv rfl, hd2 rfl, sizeT_some hT hn, Sem.run_pure, adv_eq]
        | some lv =>
          simp only [Instr.sliceAt, Sem.run_bind, hu, Result.andThen_ok, Instr.slice, Instr.sliceBounds, hrm mv rfl, hrh hv rfl, hrl lv rfl, sizeT_some hT hn, Sem.run_pure, adv_eq]

end Go.Sep
