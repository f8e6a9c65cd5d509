/- Runs of closed calls: structs, conversions; all operations that change nothing. -/
import Derived.Test.YtgadojhdajmidaaGreatDoorSepW
set_option linter.unusedSimpArgs false
set_option linter.unusedVariables false
namespace Go.Sep

/-! ### Structs -/

def SegR (ι : Ren) (S S' : List (List Value)) : Prop := S'.length = S.length ∧ ∀ (n : Nat) (a b : List Value), S[n]? = some a → S'[n]? = some b → VRs ι a b

theorem SegR.set {ι : Ren} {S S' : List (List Value)} (h : SegR ι S S') {k : Nat} {l l' : List Value} (hl : VRs ι l l') : SegR ι (S.set k l) (S'.set k l') := by
  refine ⟨by simpa using h.1, fun n a b ha hb => ?_⟩
  rw [List.getElem?_set] at ha hb
  by_cases hk : k = n
  · rw [if_pos hk] at ha hb
    by_cases hn : k < S.length
    · rw [if_pos hn] at ha
      rw [if_pos (by rw [h.1]; exact hn)] at hb
      cases ha; cases hb; exact hl
    · rw [if_neg hn] at ha; cases ha
  · rw [if_neg hk] at ha hb
    exact h.2 n a b ha hb

theorem SegR.lay {ι : Ren} : ∀ {is : List Nat} {vs vs' : List Value} {S S' : List (List Value)}, SegR ι S S' → VRs ι vs vs' → SegR ι (laySegs S (is.zip vs)) (laySegs S' (is.zip vs'))
  | [], _, _, _, _, h, _ => by simpa [laySegs] using h
  | _ :: _, _, _, _, _, h, .nil => by simpa [laySegs] using h
  | i :: is, _, _, S, S', h, .cons (v := v) (v' := v') a t => by
    simp only [List.zip_cons_cons]
    show SegR ι (laySegs (S.set i v.cells.toList) _) (laySegs (S'.set i v'.cells.toList) _)
    exact SegR.lay (h.set a.cells) t

theorem SegR.flat {ι : Ren} {S S' : List (List Value)} (h : SegR ι S S') : VRs ι S.flatten S'.flatten := VRs.flat h.1.symm h.2

theorem SegR.csts {ι : Ren} {S : List (List Value)} (h : ∀ x ∈ S, x.all cst = true) : SegR ι S S :=
  ⟨rfl, fun n a b ha hb => by
    rw [ha] at hb; cases hb
    exact csts_ok (h a (List.mem_of_getElem? ha))⟩

def prtC (S : List (List Value)) : List (Nat × Value) → Bool
  | [] => true
  | (k, v) :: ps => (match S[k]? with
    | some x => (match v with | .agg ⟨cs⟩ => Nat.beq cs.length x.length && prtC S ps | _ => Nat.beq x.length 1 && prtC S ps)
    | none => false)

theorem prtC_ok {ι : Ren} {S : List (List Value)} : ∀ {is : List Nat} {vs vs' : List Value}, VRs ι vs vs' → prtC S (is.zip vs) = true → ∀ {K : Prop}, K → prtW S (is.zip vs') K
  | [], _, _, _, _, K, hk => by simpa [prtW] using hk
  | _ :: _, _, _, .nil, _, K, hk => by simpa [prtW] using hk
  | i :: is, _, _, .cons (v := v) (v' := v') a t, h, K, hk => by
    simp only [List.zip_cons_cons] at h ⊢
    simp only [prtC] at h
    split at h
    · rename_i x hx
      refine optW_of hx ?_
      split at h
      · rename_i cs
        cases a
        rename_i cs' hcs
        simp only [Bool.and_eq_true] at h
        have h1 := Nat.eq_of_beq_eq_true h.1
        refine ⟨?_, prtC_ok t h.2 hk⟩
        show cs'.length = x.length
        rw [hcs.length, h1]
      · rename_i hn
        simp only [Bool.and_eq_true] at h
        cases a <;> first
          | exact absurd rfl (hn _)
          | (show (bif Nat.beq x.length 1 then _ else False)
             rw [h.1]
             exact prtC_ok t h.2 hk)
    · cases h

theorem zSegs_cst {T : Nat → Option TInf} {zero : List Value} (hz : zero.all cst = true) : ∀ {fs : List (Nat × Nat)} {off : Nat} {S : List (List Value)}, zSegs T zero fs off = some S → ∀ x ∈ S, x.all cst = true
  | [], off, S, h => by
    simp only [zSegs] at h
    cases hb : Nat.beq off zero.length with
    | false => rw [hb] at h; cases h
    | true => rw [hb] at h; cases h; intro x hx; cases hx
  | (o, t) :: fs, off, S, h => by
    simp only [zSegs] at h
    split at h
    · cases h
    · rename_i n hn
      cases hb : Nat.beq o off with
      | false => rw [hb] at h; cases h
      | true =>
        rw [hb] at h
        simp only [cond_true] at h
        split at h
        · rename_i S2 hS
          cases h
          intro x hx
          rcases List.mem_cons.1 hx with rfl | hx
          · rw [List.all_eq_true] at hz ⊢
            intro y hy
            exact hz y (List.mem_of_mem_drop (List.mem_of_mem_take hy))
          · exact zSegs_cst hz hS x hx
        · cases h

/-- All zero values are without places. -/
def TCst (T : Nat → Option TInf) : Prop := ∀ t i, T t = some i → i.zero.all cst = true

theorem TCst.zval {T : Nat → Option TInf} (h : TCst T) {t : Nat} {i : TInf} (hi : T t = some i) {ι : Ren} : VR ι i.zval i.zval := by
  have := h t i hi
  unfold TInf.zval
  cases i.desc.isAgg with
  | true => exact .agg (csts_ok this)
  | false =>
    simp only [cond_false]
    cases hz : i.zero with
    | nil => exact undef_vr
    | cons v l => rw [hz] at this; simp only [List.all_cons, Bool.and_eq_true] at this; exact cst_ok this.1

noncomputable def bldC (T : Nat → Option TInf) (t : Nat) (is : List Nat) (vs : List Value) : Option Value :=
  match T t with
  | some i => (match i.desc with
    | .struct fs => (match zSegs T i.zero fs 0 with
      | some S => bif prtC S (is.zip vs) then fL (laySegs S (is.zip vs)).flatten fun l => some (.agg ⟨l⟩) else none
      | none => none)
    | _ => none)
  | none => none

theorem bldC_ok {T : Nat → Option TInf} (hT : TCst T) {ι : Ren} {t : Nat} {is : List Nat} {vs vs' : List Value} {v : Value} (hv : VRs ι vs vs') (h : bldC T t is vs = some v) : Gives ι v (bldW T t (is.zip vs')) := by
  unfold bldC at h
  split at h
  · rename_i i hi
    split at h
    · rename_i fs hd
      split at h
      · rename_i S hS
        cases hb : prtC S (is.zip vs) with
        | false => rw [hb] at h; cases h
        | true =>
          rw [hb] at h
          simp only [cond_true, fL_eq] at h
          cases h
          refine ⟨_, .agg ((SegR.csts (zSegs_cst (hT t i hi) hS)).lay hv).flat, fun K hk => optW_of hi ?_⟩
          rw [hd]
          exact optW_of hS (prtC_ok hv hb hk)
      · cases h
    · cases h
  · cases h

/-! ### Structs compared -/

noncomputable def eqS1C (T : Nat → Option TInf) (t : Nat) (a b : Value) : Option Bool :=
  match descOf T t with
  | some d => (match d, a, b with
    | .bool, .bool a, .bool b => some (a == b)
    | .int _, .int k a, .int k' b => bif decide (k' = k) then some (eqI a b) else none
    | .string, .string a, .string b => some (beqB (lstB a) (lstB b))
    | _, _, _ => none)
  | none => none

theorem eqS1C_ok {T : Nat → Option TInf} {ι : Ren} {t : Nat} {a b a' b' : Value} {r : Bool} (ha : VR ι a a') (hb : VR ι b b') (h : eqS1C T t a b = some r) {K : Bool → Prop} (hk : K r) : eqS1 T t a' b' K := by
  unfold eqS1C at h
  split at h
  · rename_i d hd
    refine optW_of hd ?_
    split at h
    · cases ha; cases hb; cases h; exact hk
    · rename_i k x k' y
      cases ha; cases hb
      cases hkk : decide (k' = k) with
      | false => rw [hkk] at h; cases h
      | true =>
        rw [hkk] at h; cases h
        rw [eqI_eq] at hk
        simp only [asI, hkk, cond_true]; exact hk
    · cases ha; cases hb; cases h
      rw [beqS_eq] at hk
      exact hk
    · cases h
  · cases h

noncomputable def eqFsC (T : Nat → Option TInf) (xs ys : List Value) : List (Nat × Nat) → Option Bool
  | [] => some true
  | (o, t) :: fs => (match partC T t xs o, partC T t ys o with
    | some a, some b => (match eqS1C T t a b with
      | some r => fB r fun r => bif r then eqFsC T xs ys fs else some false
      | none => none)
    | _, _ => none)

theorem eqFsC_ok {T : Nat → Option TInf} {ι : Ren} {xs ys xs' ys' : List Value} (hx : VRs ι xs xs') (hy : VRs ι ys ys') : ∀ {fs : List (Nat × Nat)} {r : Bool} {K : Bool → Prop}, eqFsC T xs ys fs = some r → K r → eqFs T fs ⟨xs'⟩ ⟨ys'⟩ K
  | [], r, K, h, hk => by cases h; exact hk
  | (o, t) :: fs, r, K, h, hk => by
    simp only [eqFsC] at h
    split at h
    · rename_i a b ha hb
      split at h
      · rename_i r2 hr2
        rw [fB_eq] at h
        obtain ⟨a', h1, h2⟩ := partC_ok hx ha
        obtain ⟨b', h3, h4⟩ := partC_ok hy hb
        simp only [eqFs]
        refine h2 _ ?_
        refine h4 _ ?_
        refine eqS1C_ok h1 h3 hr2 ?_
        cases r2 with
        | false => cases h; exact hk
        | true => exact eqFsC_ok hx hy h hk
      · cases h
    · cases h

noncomputable def binS (T : Nat → Option TInf) (op : BinOp) (t : Nat) (x y : Value) : Option Value :=
  match x with
  | .agg ⟨xs⟩ => (match y, T t with
    | .agg ⟨ys⟩, some i => bif i.cmp then (match fieldsOf T t with
      | some fs => (match eqFsC T xs ys fs with
        | some r => (match op with | .eql => some (.bool r) | .neq => some (.bool (!r)) | _ => none)
        | none => none)
      | none => none) else none
    | _, _ => none)
  | _ => binC T op t x y

theorem binS_ok {ι : Ren} {T : Nat → Option TInf} {op : BinOp} {t : Nat} {x y x' y' v : Value} (hx : VR ι x x') (hy : VR ι y y') (h : binS T op t x y = some v) : Gives ι v (binA T op t x' y') := by
  unfold binS at h
  split at h
  · rename_i xs
    cases hx
    rename_i xs' hxs
    split at h
    · rename_i ys i hi
      cases hy
      rename_i ys' hys
      cases hc : i.cmp with
      | false => rw [hc] at h; cases h
      | true =>
        rw [hc] at h
        simp only [cond_true] at h
        split at h
        · rename_i fs hfs
          split at h
          · rename_i r hr
            split at h
            · cases h
              exact ⟨_, .bool _, fun K hk => optW_of hi ⟨hc, optW_of hfs (eqFsC_ok (K := fun r => K (.bool r)) hxs hys hr hk)⟩⟩
            · cases h
              exact ⟨_, .bool _, fun K hk => optW_of hi ⟨hc, optW_of hfs (eqFsC_ok (K := fun r => K (.bool !r)) hxs hys hr hk)⟩⟩
            · cases h
          · cases h
        · cases h
    · cases h
  · rename_i hn
    obtain ⟨v', h1, h2⟩ := binC_ok hx hy h
    refine ⟨v', h1, fun K hk => ?_⟩
    cases hx <;> first | exact absurd rfl (hn _) | exact h2 K hk

/-! ### Conversions, lengths, assertions -/

noncomputable def cvC (T : Nat → Option TInf) (s t : Nat) (x : Value) (τ : VH) : Option Value :=
  match descOf T s, descOf T t with
  | some ds, some dt => (match dt with
    | .int k => (match x with | .int _ n => fI (wrapF k n) fun n => some (.int k n) | _ => none)
    | .string => (match ds with
      | .string => (match x with | .string b => some (.string b) | _ => none)
      | .slice e => (match descOf T e with
        | some (.int .u8) => (match x with
          | .slice a len _ => bif Nat.beq len 0 then some (.string (mkB [])) else (match a with
            | some ⟨b, o, none⟩ => (match τ.rows.get b with
              | some (.own _ cells n _) => bif Nat.ble (Nat.add o len) n then (match gat cells len o with
                | some l => (match toBytes l with | some r => fL r fun r => some (.string (mkB r)) | none => none)
                | none => none) else none
              | _ => none)
            | _ => none)
          | _ => none)
        | _ => none)
      | .int _ => (match x with | .int _ n => fL (lstB (Utf8.encode n)) fun r => some (.string (mkB r)) | _ => none)
      | _ => none)
    | .uptr => (match ds, x with
      | .ptr e, .pointer (some ⟨b, o, none⟩) => (match sizeT T e, τ.rows.get b with
        | some n, some (.own _ _ len _) => bif Nat.blt 0 n && Nat.blt o len then some (.pointer (some ⟨b, o, none⟩)) else none
        | _, _ => none)
      | _, _ => none)
    | .ptr u => (match ds, x with
      | .uptr, .pointer (some ⟨b, o, none⟩) => (match sizeT T u, τ.rows.get b with
        | some n, some (.own e _ len 1) => (match T e with
          | some i => bif Nat.blt 0 n && (Nat.blt 0 i.size && (Nat.ble i.size len && i.lies.any fun p => Nat.beq p.1 o && Nat.beq p.2 u)) then some (.pointer (some ⟨b, o, none⟩)) else none
          | none => none)
        | _, _ => none)
      | _, _ => none)
    | _ => none)
  | _, _ => none

theorem toBytes_vr {ι : Ren} : ∀ {l l' : List Value} {r : List UInt8}, VRs ι l l' → toBytes l = some r → toBytes l' = some r
  | _, _, _, .nil, h => h
  | v :: l, _, r, .cons a t, h => by
    unfold toBytes at h
    split at h
    · cases h; rename_i h1; cases h1
    · rename_i n l2 h1
      cases h1
      cases a
      split at h
      · rename_i r2 hr2
        cases h
        simp only [toBytes, toBytes_vr t hr2]
      · cases h
    · cases h

theorem cvC_ok {T : Nat → Option TInf} {ι : Ren} {τ : VH} {σ : SHeap} (hr : HR T ι τ σ) {s t : Nat} {x x' v : Value} (hx : VR ι x x') (h : cvC T s t x τ = some v) : Gives ι v (cvW T s t x' σ) := by
  unfold cvC at h
  split at h
  · rename_i ds dt hs ht
    split at h
    · rename_i k
      split at h
      · cases hx
        rw [fI_eq, wrapF_eq] at h; cases h
        exact ⟨_, .int .., fun K hk => optW_of hs (optW_of ht hk)⟩
      · cases h
    · split at h
      · split at h
        · cases hx; cases h
          exact ⟨_, .str _, fun K hk => optW_of hs (optW_of ht hk)⟩
        · cases h
      · rename_i e
        split at h
        · rename_i he
          split at h
          · rename_i a len c
            cases hl : Nat.beq len 0 with
            | true =>
              rw [hl] at h; cases h
              refine ⟨_, .str _, fun K hk => optW_of hs (optW_of ht (optW_of he ?_))⟩
              cases hx <;> (simp only [asSl, hl, cond_true]; exact hk)
            | false =>
              rw [hl] at h
              simp only [cond_false] at h
              split at h
              · rename_i b o
                cases hx
                rename_i i hi
                split at h
                · rename_i e2 cells n room hb
                  cases hle : Nat.ble (Nat.add o len) n with
                  | false => rw [hle] at h; cases h
                  | true =>
                    rw [hle] at h
                    simp only [cond_true] at h
                    have hle' := Nat.le_of_ble_eq_true hle
                    split at h
                    · rename_i l hg
                      split at h
                      · rename_i r hr2
                        rw [fL_eq] at h; cases h
                        obtain ⟨vs, h1, h2, h3⟩ := ld_of hr hi hb (o := o) (n := len) hle'
                        refine ⟨_, .str _, fun K hk => optW_of hs (optW_of ht (optW_of he ?_))⟩
                        simp only [asSl, hl, cond_false]
                        refine optW_of rfl (optW_of h3 (optW_of (toBytes_vr (gat_ok h1 h2 hle' hg) hr2) ?_))
                        exact hk
                      · cases h
                    · cases h
                · cases h
              · cases h
          · cases h
        · cases h
      · split at h
        · cases hx
          rw [fL_eq] at h; cases h
          refine ⟨_, .str _, fun K hk => optW_of hs (optW_of ht ?_)⟩
          exact hk
        · cases h
      · cases h
    · split at h
      · rename_i e b o
        cases hx
        rename_i i hi
        split at h
        · rename_i n e2 cells len room hn hb
          cases hc : (Nat.blt 0 n && Nat.blt o len) with
          | false => rw [hc] at h; cases h
          | true =>
            rw [hc] at h; cases h
            rw [Bool.and_eq_true, blt_dec, blt_dec] at hc
            have c1 := of_decide_eq_true hc.1
            have c2 := of_decide_eq_true hc.2
            obtain ⟨r', h1, h2⟩ := hr.rows _ i _ hi hb
            obtain ⟨inf, vs, h3, rfl, h5, h6⟩ := h2.own_elim
            refine ⟨_, .ptr hi, fun K hk => optW_of hs (optW_of ht ?_)⟩
            simp only [asP]
            refine optW_of hn (optW_of h1 ?_)
            exact ⟨trivial, c1, by omega, by omega, hk⟩
        · cases h
      · cases h
    · rename_i u
      split at h
      · rename_i b o
        cases hx
        rename_i i hi
        split at h
        · rename_i n e cells len hn hb
          split at h
          · rename_i inf hT2
            cases hc : (Nat.blt 0 n && (Nat.blt 0 inf.size && (Nat.ble inf.size len && inf.lies.any fun p => Nat.beq p.1 o && Nat.beq p.2 u))) with
            | false => rw [hc] at h; cases h
            | true =>
              rw [hc] at h; cases h
              simp only [Bool.and_eq_true, blt_dec, List.any_eq_true] at hc
              obtain ⟨c1, c2, c3, p, hp, c4, c5⟩ := hc
              have c1 := of_decide_eq_true c1
              have c2 := of_decide_eq_true c2
              have c3 := Nat.le_of_ble_eq_true c3
              obtain ⟨r', h1, h2⟩ := hr.rows _ i _ hi hb
              have hsh := h2.own_fix
              obtain ⟨inf2, vs, h3, rfl, h5, h6⟩ := h2.own_elim
              refine ⟨_, .ptr hi, fun K hk => optW_of hs (optW_of ht ?_)⟩
              simp only [asP]
              refine optW_of hn (optW_of h1 (optW_of hT2 ?_))
              refine ⟨trivial, c1, c2, hsh, by omega, ?_, hk⟩
              have e1 := Nat.eq_of_beq_eq_true c4
              have e2 := Nat.eq_of_beq_eq_true c5
              rw [hsh, Nat.add_zero, ← e1, ← e2]
              exact hp
          · cases h
        · cases h
      · cases h
    · cases h
  · cases h

noncomputable def lenL {α : Type} (l : List α) : Nat := List.rec (motive := fun _ => Nat) 0 (fun _ _ n => Nat.succ n) l
theorem lenL_eq {α : Type} (l : List α) : lenL l = l.length := by
  induction l with
  | nil => rfl
  | cons a l ih => show Nat.succ (lenL l) = _; rw [ih]; rfl

noncomputable def lenC (T : Nat → Option TInf) (t : Nat) (x : Value) (τ : VH) : Option Value :=
  match descOf T t with
  | some d => (match d, x with
    | .string, .string s => fN (lenB s) fun n => some (.int .i64 (.ofNat n))
    | .slice _, .slice _ n _ => some (.int .i64 (.ofNat n))
    | .map .., .map none => some (.int .i64 (.ofNat 0))
    | .map .., .map (some r) => (match τ.rows.get r with | some (.map es _) => fN (lenL es) fun n => some (.int .i64 (.ofNat n)) | _ => none)
    | _, _ => none)
  | none => none

theorem MRs.len {ι : Ren} : ∀ {l m : List MapEntry}, MRs ι l m → m.length = l.length
  | [], [], _ => rfl
  | _ :: _, _ :: _, h => by simp [h.2.2.2.len]

theorem lenC_ok {T : Nat → Option TInf} {ι : Ren} {τ : VH} {σ : SHeap} (hr : HR T ι τ σ) {t : Nat} {x x' v : Value} (hx : VR ι x x') (h : lenC T t x τ = some v) : Gives ι v (lenW T t x' σ) := by
  unfold lenC at h
  split at h
  · rename_i d hd
    split at h
    · cases hx
      rw [fN_eq, lenB_eq] at h; cases h
      exact ⟨_, .int .., fun K hk => optW_of hd hk⟩
    · cases h
      cases hx <;> exact ⟨_, .int .., fun K hk => optW_of hd hk⟩
    · cases hx; cases h
      exact ⟨_, .int .., fun K hk => optW_of hd hk⟩
    · cases hx
      rename_i i hi
      split at h
      · rename_i es clk hb
        rw [fN_eq, lenL_eq] at h; cases h
        obtain ⟨r', h1, h2⟩ := hr.rows _ i _ hi hb
        obtain ⟨es', rfl, h3, h4⟩ := h2
        refine ⟨_, .int .., fun K hk => optW_of hd ?_⟩
        simp only [h1]
        show K (.int .i64 (es'.length : Int))
        rw [h3.len]; exact hk
      · cases h
    · cases h
  · cases h

noncomputable def tasC (T : Nat → Option TInf) (x : Value) (asserted : Nat) : Option Value :=
  match T asserted with
  | some i => (match i.desc with
    | .iface _ => none
    | _ => (match x with
      | .nilIface => some (.tuple ⟨[i.zval, .bool false]⟩)
      | .iface t v => bif Nat.beq t asserted then some (.tuple ⟨[v, .bool true]⟩) else some (.tuple ⟨[i.zval, .bool false]⟩)
      | _ => none))
  | none => none

theorem tasC_ok {T : Nat → Option TInf} (hT : TCst T) {ι : Ren} {x x' v : Value} {asserted : Nat} (hx : VR ι x x') (h : tasC T x asserted = some v) : Gives ι v (tasW T x' asserted) := by
  unfold tasC at h
  split at h
  · rename_i i hi
    split at h
    · cases h
    · rename_i hn
      have key : ∀ K, tasX x' asserted i.zval K → tasW T x' asserted K := fun K hk => by
        refine optW_of hi ?_
        split
        · rename_i hd; exact absurd hd (hn _)
        · exact hk
      split at h
      · cases hx; cases h
        exact ⟨_, .tuple (.cons (hT.zval hi) (.cons (.bool _) .nil)), fun K hk => key K hk⟩
      · cases hx
        rename_i t w w' hw
        cases hb : Nat.beq t asserted with
        | true =>
          rw [hb] at h; cases h
          exact ⟨_, .tuple (.cons hw (.cons (.bool _) .nil)), fun K hk => key K (by simp only [tasX, hb, cond_true]; exact hk)⟩
        | false =>
          rw [hb] at h; cases h
          exact ⟨_, .tuple (.cons (hT.zval hi) (.cons (.bool _) .nil)), fun K hk => key K (by simp only [tasX, hb, cond_false]; exact hk)⟩
      · cases h
  · cases h

noncomputable def minmaxC (mx : Bool) (vs : List Value) : Option Value :=
  match vs with
  | [.int k a, .int _ b] => fI (bif mx then (bif ltI a b then b else a) else (bif ltI b a then b else a)) fun n => some (.int k n)
  | _ => none

theorem minmaxC_ok {ι : Ren} {mx : Bool} {vs vs' : List Value} {v : Value} (hv : VRs ι vs vs') (h : minmaxC mx vs = some v) : Gives ι v (minmaxW mx vs') := by
  unfold minmaxC at h
  split at h
  · rename_i k a k2 b
    cases hv with
    | cons h1 t1 => cases t1 with
      | cons h2 t2 =>
        cases t2; cases h1; cases h2
        rw [fI_eq, ltI_eq, ltI_eq] at h; cases h
        refine ⟨_, .int .., fun K hk => ?_⟩
        show K _
        have e1 : (if b > a then b else a) = (bif decide (a < b) then b else a) := by
          by_cases h : a < b
          · rw [if_pos h, decide_eq_true h]; rfl
          · rw [if_neg h, decide_eq_false h]; rfl
        have e2 : (if b < a then b else a) = (bif decide (b < a) then b else a) := by
          by_cases h : b < a
          · rw [if_pos h, decide_eq_true h]; rfl
          · rw [if_neg h, decide_eq_false h]; rfl
        rw [e1, e2]; exact hk
  · cases h

end Go.Sep
