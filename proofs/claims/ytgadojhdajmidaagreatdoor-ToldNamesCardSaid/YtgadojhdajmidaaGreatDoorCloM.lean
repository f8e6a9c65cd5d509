/- Closed runs: functions that the model answers itself; functions answered by hand. -/
import Derived.Test.YtgadojhdajmidaaGreatDoorCloL
import Derived.Lib.Bytealg
import Derived.Laws.Externs
import Derived.Lib.MakeNoZero
set_option linter.unusedSimpArgs false
set_option linter.unusedVariables false
namespace Go.Sep
open Go.Lib

/-- A function's answer by hand is right. -/
def HkOk (P : Program) (T : Nat → Option TInf) (g : Nat) (h : CallT → List Value → VH → Option CRes) : Prop :=
  ∀ call, CallOk P T call → ∀ args τ r, h call args τ = some r → ∀ ι σ args', VRs ι args args' → HR T ι τ σ → CallF P g args' (RetR T ι τ r) σ

theorem xok_nil {P : Program} {T : Nat → Option TInf} : XOk P T (fun _ => none) := fun _ _ h => by cases h

theorem xok_cons {P : Program} {T : Nat → Option TInf} {X : XT} {a : Nat} {h : CallT → List Value → VH → Option CRes} (ha : HkOk P T a h) (hX : XOk P T X) : XOk P T (fun g => bif Nat.beq g a then some h else X g) := by
  intro g h' hg
  cases hb : Nat.beq g a with
  | true =>
    simp only [hb, cond_true] at hg
    cases hg
    obtain rfl := Nat.eq_of_beq_eq_true hb
    exact ha
  | false =>
    simp only [hb, cond_false] at hg
    exact hX g h' hg

theorem callF_ext {P : Program} {f : FuncId} {fn : Func} {e : Array Value → Sem Value} (hf : P.funcs[f]? = some fn) (hname : (fn.name == "runtime.NumGoroutine") = false)
    (hb : fn.body.isNone = true) (hn : Extern.findNext fn = none) (he : Extern.find fn = some e) {args : List Value} {R : Ending → SHeap → Prop} {σ : SHeap}
    (h : ∀ w, Sat w σ → ∃ v w' σ', (e args.toArray).run P w = .ok v w' ∧ R (.returned v) σ' ∧ Sat w' σ' ∧ Fr σ σ' w w') : CallF P f args R σ := .inr fun w hs => by
  obtain ⟨v, w', σ', h1, h2, h3, h4⟩ := h w hs
  exact ⟨v, w', σ', by rw [run_callFunc_extern hf hname hb hn he, h1]; rfl, h2, h3, h4⟩

/-- Answers that leave memory as it is. -/
theorem hk_pure {P : Program} {T : Nat → Option TInf} {g : Nat} {h : List Value → Option Value} {fn : Func} {e : Array Value → Sem Value} (hf : P.funcs[g]? = some fn) (hname : (fn.name == "runtime.NumGoroutine") = false)
    (hb : fn.body.isNone = true) (hn : Extern.findNext fn = none) (he : Extern.find fn = some e)
    (hh : ∀ args v, h args = some v → ∀ ι args', VRs ι args args' → ∃ v', VR ι v v' ∧ ∀ w, (e args'.toArray).run P w = .ok v' w) :
    HkOk P T g (fun _ args τ => match h args with | some v => some (true, v, τ) | none => none) := by
  intro call hc args τ r hr ι σ args' ha hH
  dsimp only at hr
  split at hr
  · rename_i v hv
    cases hr
    obtain ⟨v', h1, h2⟩ := hh args v hv ι args' ha
    exact callF_ext hf hname hb hn he fun w hs => ⟨v', w, σ, h2 w, ⟨ι, v', Ext.refl _ _, h1, hH, rfl⟩, hs, Fr.refl _ _⟩
  · cases hr

/-! ### Bytes -/

noncomputable def idxB (c : Nat) (l : List UInt8) : Nat → Int :=
  List.rec (motive := fun _ => Nat → Int) (fun _ => .negSucc 0) (fun x _ ih k => bif Nat.beq x.toNat c then .ofNat k else ih (Nat.succ k)) l
noncomputable def cntB (c : Nat) (l : List UInt8) : Nat :=
  List.rec (motive := fun _ => Nat) 0 (fun x _ ih => bif Nat.beq x.toNat c then Nat.succ ih else ih) l

theorem beqU (x : UInt8) {c : Nat} (hc : c < 256) : Nat.beq x.toNat c = (x == c.toUInt8) := by
  have h1 : (c.toUInt8).toNat = c := by simp; omega
  rw [beq_dec]
  by_cases h : x = c.toUInt8
  · subst h; simp [h1]
  · have : ¬ x.toNat = c := fun e => h (UInt8.toNat_inj.1 (by rw [e, h1]))
    simp [this, h]

theorem idxB_eq {c : Nat} (hc : c < 256) : ∀ (l : List UInt8) (k : Nat), idxB c l k = if indexByte l c.toUInt8 = -1 then -1 else indexByte l c.toUInt8 + k
  | [], k => rfl
  | x :: l, k => by
    show (bif Nat.beq x.toNat c then Int.ofNat k else idxB c l (k + 1)) = _
    rw [beqU x hc, idxB_eq hc l (k + 1)]
    have hg := indexByte_ge l c.toUInt8
    by_cases hx : (x == c.toUInt8) = true
    · simp [indexByte, hx]
    · have hx : (x == c.toUInt8) = false := by simpa using hx
      simp only [indexByte, hx, cond_false, Bool.false_eq_true, if_false]
      by_cases h : indexByte l c.toUInt8 = -1
      · simp [h]
      · have h2 : (indexByte l c.toUInt8 == -1) = false := by simpa using h
        rw [if_neg h, h2]
        simp only [Bool.false_eq_true, if_false]
        rw [if_neg (by omega)]
        omega

theorem cntB_eq {c : Nat} (hc : c < 256) : ∀ (l : List UInt8), cntB c l = countByte l c.toUInt8
  | [] => rfl
  | x :: l => by
    show (bif Nat.beq x.toNat c then Nat.succ (cntB c l) else cntB c l) = _
    rw [beqU x hc, cntB_eq hc l]
    simp only [countByte, List.count_cons]
    cases hx : (x == c.toUInt8) <;> simp

noncomputable def aIdx (args : List Value) : Option Value :=
  match args with | [.string s, .int .u8 (.ofNat c)] => bif Nat.blt c 256 then fI (idxB c (lstB s) 0) fun n => some (.int .i64 n) else none | _ => none
noncomputable def aCnt (args : List Value) : Option Value :=
  match args with | [.string s, .int .u8 (.ofNat c)] => bif Nat.blt c 256 then fN (cntB c (lstB s)) fun n => some (.int .i64 (.ofNat n)) else none | _ => none
def aSame (args : List Value) : Option Value := match args with | [x] => some x | _ => none

theorem aIdx_ok {P : Program} : ∀ args v, aIdx args = some v → ∀ ι args', VRs ι args args' → ∃ v', VR ι v v' ∧ ∀ w, (Extern.BytealgIndexByte.indexByte args'.toArray).run P w = .ok v' w := by
  intro args v h ι args' ha
  unfold aIdx at h
  split at h
  · rename_i s c
    obtain ⟨x', y', rfl, h1, h2⟩ := ha.two
    cases h1; cases h2
    cases hb : Nat.blt c 256 with
    | false => rw [hb] at h; cases h
    | true =>
      rw [hb] at h
      simp only [cond_true, fI_eq] at h
      cases h
      rw [blt_dec] at hb
      have hc := of_decide_eq_true hb
      refine ⟨_, .int .., fun w => ?_⟩
      have := run_indexByteString (P := P) s (.ofNat c) w
      rw [show ([Value.string s, Value.int IntKind.u8 (Int.ofNat c)].toArray) = #[.string s, .int .u8 (.ofNat c)] from rfl, this]
      rw [idxB_eq hc]
      have e : (Int.ofNat c).toNat.toUInt8 = c.toUInt8 := rfl
      rw [e]
      have e2 : lstB s = s.data.toList := rfl
      rw [e2]
      by_cases hm : indexByte s.data.toList c.toUInt8 = -1
      · rw [if_pos hm, hm]
      · rw [if_neg hm]; simp
  · cases h

theorem aCnt_ok {P : Program} : ∀ args v, aCnt args = some v → ∀ ι args', VRs ι args args' → ∃ v', VR ι v v' ∧ ∀ w, (Extern.BytealgCount.count args'.toArray).run P w = .ok v' w := by
  intro args v h ι args' ha
  unfold aCnt at h
  split at h
  · rename_i s c
    obtain ⟨x', y', rfl, h1, h2⟩ := ha.two
    cases h1; cases h2
    cases hb : Nat.blt c 256 with
    | false => rw [hb] at h; cases h
    | true =>
      rw [hb] at h
      simp only [cond_true, fN_eq] at h
      cases h
      rw [blt_dec] at hb
      have hc := of_decide_eq_true hb
      refine ⟨_, .int .., fun w => ?_⟩
      have := run_countString (P := P) s (.ofNat c) w
      rw [show ([Value.string s, Value.int IntKind.u8 (Int.ofNat c)].toArray) = #[.string s, .int .u8 (.ofNat c)] from rfl, this]
      rw [cntB_eq hc]
      rfl
  · cases h

theorem aSame_ok {P : Program} : ∀ args v, aSame args = some v → ∀ ι args', VRs ι args args' → ∃ v', VR ι v v' ∧ ∀ w, (Extern.AbiNoEscape.same args'.toArray).run P w = .ok v' w := by
  intro args v h ι args' ha
  unfold aSame at h
  split at h
  · cases h
    obtain ⟨x', rfl, h1⟩ := ha.one
    exact ⟨x', h1, fun w => rfl⟩
  · cases h

noncomputable def hkIdx : CallT → List Value → VH → Option CRes := fun _ args τ => match aIdx args with | some v => some (true, v, τ) | none => none
noncomputable def hkCnt : CallT → List Value → VH → Option CRes := fun _ args τ => match aCnt args with | some v => some (true, v, τ) | none => none
noncomputable def hkSame : CallT → List Value → VH → Option CRes := fun _ args τ => match aSame args with | some v => some (true, v, τ) | none => none

section
variable {P : Program} {T : Nat → Option TInf} {g : Nat} {fn : Func} (hf : P.funcs[g]? = some fn) (hname : (fn.name == "runtime.NumGoroutine") = false) (hb : fn.body.isNone = true) (hn : Extern.findNext fn = none)
include hf hname hb hn
theorem hkIdx_ok (he : Extern.find fn = some Extern.BytealgIndexByte.indexByte) : HkOk P T g hkIdx := hk_pure hf hname hb hn he aIdx_ok
theorem hkCnt_ok (he : Extern.find fn = some Extern.BytealgCount.count) : HkOk P T g hkCnt := hk_pure hf hname hb hn he aCnt_ok
theorem hkSame_ok (he : Extern.find fn = some Extern.AbiNoEscape.same) : HkOk P T g hkSame := hk_pure hf hname hb hn he aSame_ok
end

noncomputable def aAdd (args : List Value) : Option Value :=
  match args with
  | [.int _ (.ofNat x), .int _ (.ofNat y), .int _ (.ofNat c)] => bif Nat.ble c 1 then fN (Nat.mod (Nat.add (Nat.add x y) c) 18446744073709551616) fun s => fN (Nat.div (Nat.add (Nat.add x y) c) 18446744073709551616) fun o => some (.tuple ⟨[.int .u64 (.ofNat s), .int .u64 (.ofNat o)]⟩) else none
  | _ => none

noncomputable def add64 : Array Value → Sem Value := (Extern.MathBitsCarry.rows.lookup "math/bits.Add64").getD fun _ => pure undef

theorem aAdd_ok {P : Program} : ∀ args v, aAdd args = some v → ∀ ι args', VRs ι args args' → ∃ v', VR ι v v' ∧ ∀ w, (add64 args'.toArray).run P w = .ok v' w := by
  intro args v h ι args' ha
  unfold aAdd at h
  split at h
  · rename_i k1 x k2 y k3 c
    obtain ⟨x', y', z', rfl, h1, h2, h3⟩ := ha.three
    cases h1; cases h2; cases h3
    cases hb : Nat.ble c 1 with
    | false => rw [hb] at h; cases h
    | true =>
      rw [hb] at h
      simp only [cond_true, fN_eq] at h
      cases h
      have hc : ¬ c > 1 := by have := Nat.le_of_ble_eq_true hb; omega
      refine ⟨_, .tuple (.cons (.int ..) (.cons (.int ..) .nil)), fun w => ?_⟩
      have h1 : (Extern.MathBitsCarry.three "Add64" #[.int k1 (.ofNat x), .int k2 (.ofNat y), .int k3 (.ofNat c)]).run P w = .ok (x, y, c) w := by
        have e : ∀ (k : IntKind) (n : Nat), (asInt (.int k (.ofNat n))).run P w = .ok (.ofNat n) w := fun k n => rfl
        have e3 : (Int.ofNat c).toNat = c := rfl
        rw [show Extern.MathBitsCarry.three "Add64" #[.int k1 (.ofNat x), .int k2 (.ofNat y), .int k3 (.ofNat c)] = (asInt (.int k3 (.ofNat c)) >>= _) from rfl]
        simp only [Sem.run_bind, e, Result.andThen_ok, e3, if_neg hc, Sem.run_pure]
        rfl
      show (add64 #[.int k1 (.ofNat x), .int k2 (.ofNat y), .int k3 (.ofNat c)]).run P w = _
      rw [show add64 #[.int k1 (.ofNat x), .int k2 (.ofNat y), .int k3 (.ofNat c)] = (Extern.MathBitsCarry.three "Add64" #[.int k1 (.ofNat x), .int k2 (.ofNat y), .int k3 (.ofNat c)] >>= _) from rfl]
      simp only [Sem.run_bind, h1, Result.andThen_ok, Sem.run_pure]
      rfl
  · cases h

noncomputable def hkAdd : CallT → List Value → VH → Option CRes := fun _ args τ => match aAdd args with | some v => some (true, v, τ) | none => none
theorem hkAdd_ok {P : Program} {T : Nat → Option TInf} {g : Nat} {fn : Func} (hf : P.funcs[g]? = some fn) (hname : (fn.name == "runtime.NumGoroutine") = false) (hb : fn.body.isNone = true) (hn : Extern.findNext fn = none)
    (he : Extern.find fn = some add64) : HkOk P T g hkAdd := hk_pure hf hname hb hn he aAdd_ok

/-- New bytes, whatever they are: a slice of them, of which nothing is known. -/
noncomputable def hkNoZero (e : Nat) : CallT → List Value → VH → Option CRes := fun _ args τ =>
  match args with
  | [.int .i64 (.ofNat n)] => bif Nat.ble n 281474976710656 then some (true, .slice (some ⟨τ.next, 0, none⟩) n 1, τ.add (.own e .e 0 0)) else none
  | _ => none

theorem hkNoZero_ok {P : Program} {T : Nat → Option TInf} {g : Nat} {fn : Func} (hf : P.funcs[g]? = some fn) (hname : (fn.name == "runtime.NumGoroutine") = false) (hb : fn.body.isNone = true) (hn : Extern.findNext fn = none)
    {ps : Array TypeId} {t e : TypeId} (he : Extern.find fn = some (Extern.BytealgMakeNoZero.makeNoZero ps #[t])) (hu : P.underlying t = some (.slice e)) {inf : TInf} (hT : T e = some inf) (hs : inf.size = 1) : HkOk P T g (hkNoZero e) := by
  intro call hc args τ r hr ι σ args' ha hH
  unfold hkNoZero at hr
  split at hr
  · rename_i n
    cases hle : Nat.ble n 281474976710656 with
    | false => rw [hle] at hr; cases hr
    | true =>
      rw [hle] at hr; cases hr
      obtain ⟨x', rfl, h1⟩ := ha.one
      cases h1
      refine callF_ext hf hname hb hn he fun w hsat => ?_
      obtain ⟨cs, hrun, h2, _⟩ := Lib.run_makeNoZero (P := P) (w := w) ps t e hu n (Nat.le_of_ble_eq_true hle)
      have hfree := hsat.fresh
      have hrr : RR T (ι.add τ.next ⟨w.heap.size, 0, cs.size⟩) ⟨w.heap.size, 0, cs.size⟩ (.own e .e 0 0) (.own e 0 [] (cs.size * inf.size)) :=
        ⟨inf, [], hT, rfl, ⟨rfl, fun h => by cases h⟩, fun j hj => by omega⟩
      obtain ⟨x1, x2⟩ := hH.new (i := ⟨w.heap.size, 0, cs.size⟩) hfree hrr
      refine ⟨_, _, _, hrun, ⟨_, _, x1, .slice (Ren.add_same ..), x2, ?_⟩, ?_, ?_⟩
      · simp [capA]
      · intro b r hb
        by_cases hbb : b = w.heap.size
        · subst hbb
          rw [SHeap.set_same] at hb; cases hb
          refine ⟨fun v hv => (by cases hv), cs, (0, 0), ?_, ?_, fun j _ _ => by simp, fun i v hv => by simp at hv⟩
          · show (w.heap.push (Obj.cells cs e))[w.heap.size]? = _; simp
          · simp [hs]
        · rw [SHeap.set_ne _ _ hbb] at hb
          have hlt := hsat.lt (b := b) (by rw [hb]; simp)
          exact Row.sat_congr (w := w) (by show (w.heap.push (Obj.cells cs e))[b]? = _; simp [Array.getElem?_push, Nat.ne_of_lt hlt]) (hsat b r hb)
      · refine ⟨by show _ ≤ (w.heap.push (Obj.cells cs e)).size; simp, fun b hlt _ => by show (w.heap.push (Obj.cells cs e))[b]? = _; simp [Array.getElem?_push, Nat.ne_of_lt hlt], fun b hn => ?_, rfl, rfl, rfl⟩
        by_cases hbb : b = w.heap.size
        · exact .inr (by omega)
        · rw [SHeap.set_ne _ _ hbb] at hn; exact .inl hn
  · cases hr

/-! ### Tables -/

noncomputable def ofL {α : Type} (l : List (Nat × α)) : HT α := List.rec (motive := fun _ => HT α) .e (fun p _ ih => ih.upd (some p.2) p.1) l

theorem ofL_mem {α : Type} : ∀ {l : List (Nat × α)} {t : Nat} {i : α}, (ofL l).get t = some i → (t, i) ∈ l
  | [], t, i, h => by cases h
  | p :: l, t, i, h => by
    have h' : ((ofL l).upd (some p.2) p.1).get t = some i := h
    rw [HT.upd_get] at h'
    split at h'
    · rename_i e
      cases h'
      rw [e]; exact List.mem_cons_self
    · exact List.mem_cons_of_mem _ (ofL_mem h')

inductive AllOk {α : Type} (Q : Nat → α → Prop) : List (Nat × α) → Prop
  | nil : AllOk Q []
  | cons {t : Nat} {i : α} {l : List (Nat × α)} (h : Q t i) (r : AllOk Q l) : AllOk Q ((t, i) :: l)

theorem AllOk.append {α : Type} {Q : Nat → α → Prop} : ∀ {l m : List (Nat × α)}, AllOk Q l → AllOk Q m → AllOk Q (l ++ m)
  | _, _, .nil, h => h
  | _, _, .cons a r, h => .cons a (r.append h)

theorem AllOk.mem {α : Type} {Q : Nat → α → Prop} : ∀ {l : List (Nat × α)}, AllOk Q l → ∀ {t : Nat} {i : α}, (t, i) ∈ l → Q t i
  | _, .nil, _, _, h => by cases h
  | _, .cons a r, _, _, h => by
    rcases List.mem_cons.1 h with h | h
    · cases h; exact a
    · exact r.mem h

theorem tok_of {P : Program} {l : List (Nat × TInf)} (h : AllOk (fun t i => i.ok P t) l) : TOk P (fun t => (ofL l).get t) := fun _ _ hi => h.mem (ofL_mem hi)
def tchk (P : Program) (ti : TypeInfo) (d : TypeDesc) (i : TInf) : Bool :=
  Nat.beq ti.size i.size && (Nat.beq ti.bytes i.bytes && (i.desc.fits d && (Nat.beq i.zero.length i.size && i.zero.all scal)))

def namedFs (d : TypeDesc) : Bool := match d with | .struct fs => fs.toList.all fun f => !(f.name == "_") | _ => true

theorem tinf_ok {P : Program} {t : Nat} {ti : TypeInfo} {d : TypeDesc} {z : Value} {i : TInf} (h1 : ∀ w, (typeInfo t).run P w = .ok ti w) (h2 : P.underlying t = some d) (h3 : ∀ w, (zeroValue t).run P w = .ok z w)
    (hz : (z, i.zval.cells) = (i.zval, i.zero.toArray)) (hc : tchk P ti d i = true) (hl : (i.lies.all fun p => liesAt P P.depth t 1 p.1 p.2 1) = true)
    (hm : (!i.cmp || (!P.stoodInHeld t && (!P.eqGuardType P.depth t && namedFs d))) = true) : i.ok P t := by
  simp only [tchk, Bool.and_eq_true] at hc
  obtain ⟨c1, c2, c3, c4, c5⟩ := hc
  obtain ⟨z1, z2⟩ := Prod.mk.inj hz
  have h1 : P.info? t = some ti := by
    have h := h1 default
    cases hi : P.info? t with
    | none => simp [typeInfo, program, Sem.run, hi, stuck] at h
    | some x => rw [run_typeInfo hi] at h; cases h; rfl
  refine ⟨⟨ti, h1, Nat.eq_of_beq_eq_true c1, Nat.eq_of_beq_eq_true c2⟩, ⟨d, h2, c3⟩, fun w => by rw [h3 w, z1], z2, Nat.eq_of_beq_eq_true c4, fun v hv => List.all_eq_true.1 c5 v hv, fun p hp => List.all_eq_true.1 hl p hp, fun hcmp => ?_⟩
  rw [hcmp] at hm
  simp only [Bool.not_true, Bool.false_or, Bool.and_eq_true, Bool.not_eq_true'] at hm
  refine ⟨hm.1, hm.2.1, fun fs hfs f hf => ?_⟩
  rw [h2] at hfs; cases hfs
  have hn : (fs.toList.all fun f => !(f.name == "_")) = true := hm.2.2
  have := List.all_eq_true.1 hn f hf
  simpa using this

theorem tcst_of {l : List (Nat × TInf)} (h : (l.all fun p => p.2.zero.all cst) = true) : TCst (fun t => (ofL l).get t) := fun t i hi => List.all_eq_true.1 h (t, i) (ofL_mem hi)
theorem ftok_of {P : Program} {l : List (Nat × FI)} (h : AllOk (fun g i => FIOk P g i) l) : FTOk P (fun t => (ofL l).get t) := fun _ _ hi => h.mem (ofL_mem hi)

def fiOf (f : Func) : FI := ⟨f.body.getD .skip, f.ntmps, f.results.toList⟩

theorem fiOf_ok {P : Program} {g : Nat} {fn : Func} (hf : P.funcs[g]? = some fn) (h : (fn.body.isSome && !(fn.name == "runtime.NumGoroutine")) = true) : FIOk P g (fiOf fn) := by
  rw [Bool.and_eq_true] at h
  obtain ⟨b, hb⟩ := Option.isSome_iff_exists.1 h.1
  refine ⟨fn, hf, by rw [hb]; simp [fiOf, hb], rfl, rfl, ?_⟩
  have := h.2
  simpa using this

/-! ### A closed call's answer, wherever it is called -/

theorem CallF.frame {P : Program} {G g : Nat} {args : List Value} {v : Value} {n : Int} {t : TypeId} (h : CallF P g args (fun en σ => en = .returned v ∧ σ G = some (rowG n t)) (sG G n t)) {σ : SHeap} (hσ : σ G = some (rowG n t)) :
    CallF P g args (fun en σ' => en = .returned v ∧ σ' = σ) σ := by
  have h0 : ∀ {w}, Sat w σ → Sat w (sG G n t) := fun {w} hs b r hb => by
    by_cases hG : b = G
    · subst hG; rw [sG_same] at hb; cases hb; exact hs _ _ hσ
    · rw [sG_ne n t hG] at hb; cases hb
  have key : ∀ {w w' : World} {σ' : SHeap}, Sat w σ → Sat w' σ' → σ' G = some (rowG n t) → Fr (sG G n t) σ' w w' → Sat w' σ ∧ Fr σ σ w w' := by
    intro w w' σ' hs hs' hG hf
    have hk : ∀ b, b < w.heap.size → w'.heap[b]? = w.heap[b]? := by
      intro b hb
      by_cases hbG : b = G
      · subst hbG
        have e1 : w.heap[b]? = _ := hs _ _ hσ
        have e2 : w'.heap[b]? = _ := hs' _ _ hG
        rw [e1, e2]
      · exact hf.keep b hb (sG_ne n t hbG)
    exact ⟨fun b r hb => Row.sat_congr (hk b (hs.lt (by rw [hb]; simp))) (hs b r hb), ⟨hf.size, fun b hb _ => hk b hb, fun b hb => .inl hb, hf.tape, hf.os, hf.out⟩⟩
  rcases h with ⟨h1, h2⟩ | h
  · exact .inl ⟨h1, fun w hs => (h2 w (h0 hs)).mono fun e w' ⟨σ', a, b, c⟩ => ⟨σ, ⟨a.1, rfl⟩, (key hs b a.2 c).1, (key hs b a.2 c).2⟩⟩
  · exact .inr fun w hs => by
      obtain ⟨v, w', σ', a, b, c, d⟩ := h w (h0 hs)
      exact ⟨v, w', σ, a, ⟨b.1, rfl⟩, (key hs c b.2 d).1, (key hs c b.2 d).2⟩

theorem cst_eq {ι : Ren} : ∀ {v v' : Value}, cst v = true → VR ι v v' → v' = v
  | _, _, _, .bool _ => rfl
  | _, _, _, .int _ _ => rfl
  | _, _, _, .str _ => rfl
  | _, _, _, .nilPtr => rfl
  | _, _, _, .nilMap => rfl
  | _, _, _, .nilFunc => rfl
  | _, _, _, .nilIface => rfl
  | _, _, _, .nilSlice => rfl
  | _, _, h, .empS => by cases h
  | _, _, h, .func _ _ => by cases h
  | _, _, h, .iface _ => by cases h
  | _, _, h, .agg _ => by cases h
  | .tuple ⟨[]⟩, _, _, .tuple .nil => rfl

theorem csts_eq {ι : Ren} : ∀ {l l' : List Value}, l.all cst = true → VRs ι l l' → l' = l
  | _, _, _, .nil => rfl
  | _, _, h, .cons a t => by
    simp only [List.all_cons, Bool.and_eq_true] at h
    rw [cst_eq h.1 a, csts_eq h.2 t]

/-- A value without places, of parts without places. -/
def cst2 : Value → Bool
  | .agg ⟨l⟩ => l.all cst
  | .tuple ⟨l⟩ => l.all cst
  | v => cst v

theorem cst2_ok {ι : Ren} {v : Value} (h : cst2 v = true) : VR ι v v := by
  unfold cst2 at h
  split at h
  · exact .agg (csts_ok h)
  · exact .tuple (csts_ok h)
  · exact cst_ok h

theorem cst2_eq {ι : Ren} {v v' : Value} (h : cst2 v = true) (hv : VR ι v v') : v' = v := by
  unfold cst2 at h
  split at h
  · cases hv; rename_i h2; rw [csts_eq h h2]
  · cases hv; rename_i h2; rw [csts_eq h h2]
  · exact cst_eq h hv

theorem cst2s_ok {ι : Ren} : ∀ {l : List Value}, l.all cst2 = true → VRs ι l l
  | [], _ => .nil
  | v :: l, h => by
    simp only [List.all_cons, Bool.and_eq_true] at h
    exact .cons (cst2_ok h.1) (cst2s_ok h.2)

theorem cst2s_eq {ι : Ren} : ∀ {l l' : List Value}, l.all cst2 = true → VRs ι l l' → l' = l
  | _, _, _, .nil => rfl
  | _, _, h, .cons a t => by
    simp only [List.all_cons, Bool.and_eq_true] at h
    rw [cst2_eq h.1 a, cst2s_eq h.2 t]

noncomputable def veqs (a b : List Value) : Bool := Nat.beq (lenL a) (lenL b) && (a.zip b).all fun p => veq 5 p.1 p.2

theorem veqs_eq {a b : List Value} (h : veqs a b = true) : a = b := by
  unfold veqs at h
  rw [Bool.and_eq_true, lenL_eq, lenL_eq] at h
  exact zip_all_eq (fun a b h => veq_ok h) (Nat.eq_of_beq_eq_true h.1) h.2

noncomputable def tabF (l : List (List Value × Value)) (args : List Value) : Option Value :=
  List.rec (motive := fun _ => Option Value) none (fun p _ ih => bif veqs p.1 args then some p.2 else ih) l

theorem tabF_mem {args : List Value} {v : Value} : ∀ {l : List (List Value × Value)}, tabF l args = some v → (args, v) ∈ l
  | [], h => by cases h
  | p :: l, h => by
    have h' : (bif veqs p.1 args then some p.2 else tabF l args) = some v := h
    cases hb : veqs p.1 args with
    | true =>
      rw [hb] at h'; cases h'
      rw [← veqs_eq hb]; exact List.mem_cons_self
    | false =>
      rw [hb] at h'
      exact List.mem_cons_of_mem _ (tabF_mem h')

/-- Answers found by closed runs. -/
noncomputable def hkTab (G : Nat) (l : List (List Value × Value)) : CallT → List Value → VH → Option CRes := fun _ args τ =>
  match τ.rows.get 0 with
  | some (.fix g _ _) => bif Nat.beq g G then (match tabF l args with | some v => some (true, v, τ) | none => none) else none
  | _ => none

inductive TabOk (P : Program) (G g : Nat) : List (List Value × Value) → Prop
  | nil : TabOk P G g []
  | cons {args : List Value} {v : Value} {l : List (List Value × Value)} (ha : args.all cst2 = true) (hv : cst2 v = true) (h : ClosedG P G g args v) (r : TabOk P G g l) : TabOk P G g ((args, v) :: l)

theorem TabOk.mem {P : Program} {G g : Nat} : ∀ {l : List (List Value × Value)}, TabOk P G g l → ∀ {args : List Value} {v : Value}, (args, v) ∈ l → args.all cst2 = true ∧ cst2 v = true ∧ ClosedG P G g args v
  | _, .nil, _, _, h => by cases h
  | _, .cons ha hv hc r, _, _, h => by
    rcases List.mem_cons.1 h with h | h
    · cases h; exact ⟨ha, hv, hc⟩
    · exact r.mem h

theorem hkTab_ok {P : Program} {T : Nat → Option TInf} {G g : Nat} {l : List (List Value × Value)} (h : TabOk P G g l) : HkOk P T g (hkTab G l) := by
  intro call hc args τ r hr ι σ args' ha hH
  unfold hkTab at hr
  split at hr
  · rename_i g' n t hrow
    cases hb : Nat.beq g' G with
    | false => rw [hb] at hr; cases hr
    | true =>
      rw [hb] at hr
      simp only [cond_true] at hr
      obtain rfl := Nat.eq_of_beq_eq_true hb
      split at hr
      · rename_i v hv
        cases hr
        obtain ⟨h1, h2, h3⟩ := h.mem (tabF_mem hv)
        rw [cst2s_eq h1 ha]
        cases hi : ι 0 with
        | none => exact absurd hi (hH.fixd 0 _ _ _ hrow)
        | some i =>
          obtain ⟨r', k1, rfl, rfl⟩ := hH.rows 0 i _ hi hrow
          refine ((h3 n t).frame (σ := σ) k1).mono' fun en σ' ⟨e1, e2⟩ => ?_
          subst e1 e2
          exact ⟨ι, v, Ext.refl _ _, cst2_ok h2, hH, rfl⟩
      · cases hr
  · cases hr

end Go.Sep
