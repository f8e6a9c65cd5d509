/- Runs of closed calls: operations that change nothing. -/
import Derived.Test.YtgadojhdajmidaaGreatDoorSepU
set_option linter.unusedSimpArgs false
set_option linter.unusedVariables false
namespace Go.Sep

/-! ### Reading -/

noncomputable def gat (cells : HT Value) (n : Nat) : Nat → Option (List Value) :=
  Nat.rec (motive := fun _ => Nat → Option (List Value)) (fun _ => some [])
    (fun _ ih off => match cells.get off with | some v => (match ih (Nat.succ off) with | some l => some (v :: l) | none => none) | none => none) n

theorem gat_ok {ι : Ren} {cells : HT Value} {vs : List Value} {len : Nat} (hl : vs.length = len) (h : ∀ j, j < len → ∃ v v', cells.get j = some v ∧ vs[j]? = some v' ∧ VR ι v v') :
    ∀ {n o : Nat} {l : List Value}, o + n ≤ len → gat cells n o = some l → VRs ι l ((vs.drop o).take n) := by
  intro n
  induction n with
  | zero => intro o l _ hg; cases hg; rw [List.take_zero]; exact .nil
  | succ n ih =>
    intro o l ho hg
    obtain ⟨v, v', h1, h2, h3⟩ := h o (by omega)
    have hg' : (match cells.get o with | some v => (match gat cells n (o + 1) with | some l => some (v :: l) | none => none) | none => none) = some l := hg
    rw [h1] at hg'
    simp only at hg'
    split at hg'
    · rename_i l2 hl2
      cases hg'
      have hlt : o < vs.length := by omega
      have : vs.drop o = v' :: vs.drop (o + 1) := by
        rw [List.drop_eq_getElem_cons hlt]
        congr
        rw [List.getElem?_eq_getElem hlt] at h2
        exact Option.some.inj h2
      rw [this, List.take_succ_cons]
      exact .cons h3 (ih (by omega) hl2)
    · cases hg'

theorem RR.own_elim {T : Nat → Option TInf} {ι : Ren} {i : RI} {e : Nat} {cells : HT Value} {len room : Nat} {r : Row} (h : RR T ι i (.own e cells len room) r) :
    ∃ inf vs, T e = some inf ∧ r = .own e i.sh vs (i.ex * inf.size) ∧ vs.length = len ∧ ∀ j, j < len → ∃ v v', cells.get j = some v ∧ vs[j]? = some v' ∧ VR ι v v' := by
  obtain ⟨inf, vs, h1, h2, h3, h4⟩ := h
  exact ⟨inf, vs, h1, h2, h3.1, h4⟩

theorem RR.own_fix {T : Nat → Option TInf} {ι : Ren} {i : RI} {e : Nat} {cells : HT Value} {len : Nat} {r : Row} (h : RR T ι i (.own e cells len 1) r) : i.sh = 0 := by
  obtain ⟨inf, vs, h1, h2, h3, h4⟩ := h
  exact h3.2 rfl

theorem ld_of {T : Nat → Option TInf} {ι : Ren} {τ : VH} {σ : SHeap} (hr : HR T ι τ σ) {b o n : Nat} {i : RI} (hi : ι b = some i) {e : Nat} {cells : HT Value} {len room : Nat} (hb : τ.rows.get b = some (.own e cells len room)) (ho : o + n ≤ len) :
    ∃ vs : List Value, vs.length = len ∧ (∀ j, j < len → ∃ v v', cells.get j = some v ∧ vs[j]? = some v' ∧ VR ι v v') ∧ σ.ld ⟨i.blk, o + i.sh, none⟩ n = some ((vs.drop o).take n) := by
  obtain ⟨r', h1, h2⟩ := hr.rows b i _ hi hb
  obtain ⟨inf, vs, h3, rfl, h5, h6⟩ := h2.own_elim
  refine ⟨vs, h5, h6, ?_⟩
  unfold SHeap.ld
  rw [h1]
  have e1 : o + i.sh - i.sh = o := by omega
  simp only [e1]
  rw [if_pos ⟨by omega, by omega⟩]

def tyC (d : TD) (v : Value) : Option Value :=
  match d with
  | .bool => (match v with | .bool b => some (.bool b) | _ => none)
  | .int k => (match v with | .int k' n => bif decide (k' = k) then some (.int k n) else none | _ => none)
  | .string => (match v with | .string s => some (.string s) | _ => none)
  | .ptr _ => (match v with | .pointer p => some (.pointer p) | _ => none)
  | .slice _ => (match v with | .slice a l c => some (.slice a l c) | _ => none)
  | .map .. => (match v with | .map r => some (.map r) | _ => none)
  | _ => some v

theorem tyC_ok {ι : Ren} {d : TD} {v v' r : Value} (hv : VR ι v v') (h : tyC d v = some r) : Gives ι r (tyV d (some v')) := by
  unfold tyC at h
  split at h
  · split at h
    · cases h; cases hv; exact ⟨_, .bool _, fun K hk => hk⟩
    · cases h
  · rename_i k
    split at h
    · rename_i k' n
      cases hv
      cases hk : decide (k' = k) with
      | false => rw [hk] at h; cases h
      | true =>
        rw [hk] at h; cases h
        exact ⟨_, .int .., fun K hK => by simp only [tyV, hk, cond_true]; exact hK⟩
    · cases h
  · split at h
    · cases h; cases hv; exact ⟨_, .str _, fun K hk => hk⟩
    · cases h
  · split at h
    · cases h; cases hv
      · exact ⟨_, .nilPtr, fun K hk => hk⟩
      · rename_i h; exact ⟨_, .ptr h, fun K hk => hk⟩
    · cases h
  · split at h
    · cases h; cases hv
      · exact ⟨_, .nilSlice, fun K hk => hk⟩
      · rename_i h; exact ⟨_, .slice h, fun K hk => hk⟩
      · exact ⟨_, .empS, fun K hk => hk⟩
    · cases h
  · split at h
    · cases h; cases hv
      · exact ⟨_, .nilMap, fun K hk => hk⟩
      · rename_i h; exact ⟨_, .map h, fun K hk => hk⟩
    · cases h
  · rename_i h1 h2 h3 h4 h5 h6
    cases h
    refine ⟨v', hv, fun K hk => ?_⟩
    cases d <;> first | exact absurd rfl h1 | exact absurd rfl (h2 _) | exact absurd rfl h3 | exact absurd rfl (h4 _) | exact absurd rfl (h5 _) | exact absurd rfl (h6 _ _) | exact hk

noncomputable def ldC (T : Nat → Option TInf) (t : Nat) (b o : Nat) (τ : VH) : Option Value :=
  match T t with
  | some i => (match τ.rows.get b with
    | some (.own _ cells len _) => bif i.desc.isAgg then (bif Nat.ble (Nat.add o i.size) len then (match gat cells i.size o with | some l => some (.agg ⟨l⟩) | none => none) else none) else
      (bif Nat.blt o len then (match cells.get o with | some v => tyC i.desc v | none => none) else none)
    | _ => none)
  | none => none

theorem ldC_ok {T : Nat → Option TInf} {ι : Ren} {τ : VH} {σ : SHeap} (hr : HR T ι τ σ) {t b o : Nat} {i : RI} (hi : ι b = some i) {v : Value} (h : ldC T t b o τ = some v) : Gives ι v (ldW T t ⟨i.blk, o + i.sh, none⟩ σ) := by
  unfold ldC at h
  split at h
  · rename_i inf hT
    split at h
    · rename_i e cells len room hb
      cases ha : inf.desc.isAgg with
      | true =>
        rw [ha] at h
        simp only [cond_true] at h
        cases hle : Nat.ble (Nat.add o inf.size) len with
        | false => rw [hle] at h; cases h
        | true =>
          rw [hle] at h
          simp only [cond_true] at h
          split at h
          · rename_i l hl
            cases h
            obtain ⟨vs, h1, h2, h3⟩ := ld_of hr hi hb (o := o) (n := inf.size) (Nat.le_of_ble_eq_true hle)
            refine ⟨_, .agg (gat_ok h1 h2 (Nat.le_of_ble_eq_true hle) hl), fun K hk => ?_⟩
            refine optW_of hT ?_
            rw [ha]
            simp only [cond_true]
            exact optW_of h3 hk
          · cases h
      | false =>
        rw [ha] at h
        simp only [cond_false] at h
        cases hlt : Nat.blt o len with
        | false => rw [hlt] at h; cases h
        | true =>
          rw [hlt] at h
          simp only [cond_true] at h
          have hlt' : o < len := by rw [blt_dec] at hlt; exact of_decide_eq_true hlt
          split at h
          · rename_i x hx
            obtain ⟨vs, h1, h2, h3⟩ := ld_of hr hi hb (o := o) (n := 1) (by omega)
            obtain ⟨w, w', h4, h5, h6⟩ := h2 o hlt'
            rw [hx] at h4
            cases h4
            obtain ⟨v', h7, h8⟩ := tyC_ok h6 h
            refine ⟨v', h7, fun K hk => ?_⟩
            refine optW_of hT ?_
            rw [ha]
            simp only [cond_false]
            rw [h3]
            have hl : (vs.drop o).take 1 = [w'] := by
              have hlt2 : o < vs.length := by omega
              rw [List.drop_eq_getElem_cons hlt2, List.take_succ_cons, List.take_zero]
              rw [List.getElem?_eq_getElem hlt2] at h5
              rw [Option.some.inj h5]
            rw [hl]
            exact h8 K hk
          · cases h
    · cases h
  · cases h

noncomputable def partC (T : Nat → Option TInf) (t : Nat) (cs : List Value) (off : Nat) : Option Value :=
  match T t with
  | some i => bif i.desc.isAgg then fL ((cs.drop off).take i.size) fun l => some (.agg ⟨l⟩) else (match cs[off]? with | some v => tyC i.desc v | none => none)
  | none => none

theorem partC_ok {T : Nat → Option TInf} {ι : Ren} {t : Nat} {cs cs' : List Value} (hc : VRs ι cs cs') {off : Nat} {v : Value} (h : partC T t cs off = some v) : Gives ι v (partW T t ⟨cs'⟩ off) := by
  unfold partC at h
  split at h
  · rename_i inf hT
    cases ha : inf.desc.isAgg with
    | true =>
      rw [ha] at h
      simp only [cond_true, fL_eq] at h
      cases h
      refine ⟨_, .agg ((hc.drop off).take inf.size), fun K hk => ?_⟩
      refine optW_of hT ?_
      rw [ha]
      simp only [cond_true]
      have : (⟨cs'⟩ : Array Value).extract off (off + inf.size) = ⟨(cs'.drop off).take inf.size⟩ := by
        apply Array.toList_inj.1
        simp
      rw [this]
      exact hk
    | false =>
      rw [ha] at h
      simp only [cond_false] at h
      split at h
      · rename_i x hx
        obtain ⟨x', h1, h2⟩ := hc.get hx
        obtain ⟨v', h7, h8⟩ := tyC_ok h2 h
        refine ⟨v', h7, fun K hk => ?_⟩
        refine optW_of hT ?_
        rw [ha]
        simp only [cond_false]
        have : (⟨cs'⟩ : Array Value)[off]? = some x' := by simpa using h1
        rw [this]
        exact h8 K hk
      · cases h
  · cases h

/-! ### Fields and elements -/

def fadC (T : Nat → Option TInf) (s : Nat) (x : Value) (f : Nat) : Option Value :=
  match fieldsOf T s, x with
  | some fs, .pointer (some ⟨b, o, none⟩) => (match fs[f]? with
    | some g => (match sizeT T g.2 with | some n => bif Nat.blt 0 n then some (.pointer (some ⟨b, Nat.add o g.1, none⟩)) else none | none => none)
    | none => none)
  | _, _ => none

theorem add_ren (blk o sh k : Nat) : (⟨blk, o + sh, none⟩ : Addr).add k = ⟨blk, (o + k) + sh, none⟩ := by
  have : o + sh + k = o + k + sh := by omega
  simp [Addr.add, this]

theorem fadC_ok {T : Nat → Option TInf} {ι : Ren} {s f : Nat} {x x' v : Value} (hx : VR ι x x') (h : fadC T s x f = some v) : Gives ι v (fadW T s x' f) := by
  unfold fadC at h
  split at h
  · rename_i fs b o hfs
    cases hx
    rename_i i hi
    split at h
    · rename_i g hg
      split at h
      · rename_i n hn
        cases hb : Nat.blt 0 n with
        | false => rw [hb] at h; cases h
        | true =>
          rw [hb] at h; cases h
          refine ⟨_, .ptr hi, fun K hk => ?_⟩
          refine optW_of hfs (optW_of hg (optW_of hn ?_))
          rw [hb]
          simp only [cond_true, asP, add_ren]
          exact hk
      · cases h
    · cases h
  · cases h

noncomputable def fldC (T : Nat → Option TInf) (s : Nat) (x : Value) (f : Nat) : Option Value :=
  match fieldsOf T s, x with
  | some fs, .agg ⟨cs⟩ => (match fs[f]? with | some g => partC T g.2 cs g.1 | none => none)
  | _, _ => none

theorem fldC_ok {T : Nat → Option TInf} {ι : Ren} {s f : Nat} {x x' v : Value} (hx : VR ι x x') (h : fldC T s x f = some v) : Gives ι v (fldW T s x' f) := by
  unfold fldC at h
  split at h
  · rename_i fs cs hfs
    cases hx
    rename_i cs' hcs
    split at h
    · rename_i g hg
      obtain ⟨v', h1, h2⟩ := partC_ok hcs h
      exact ⟨v', h1, fun K hk => optW_of hfs (optW_of hg (h2 K hk))⟩
    · cases h
  · cases h

def iadC (T : Nat → Option TInf) (t : Nat) (x y : Value) : Option Value :=
  match T t with
  | some ti => (match ti.desc, x, y with
    | .slice e, .slice (some ⟨b, o, none⟩) len _, .int _ (.ofNat k) => (match sizeT T e with | some n => bif Nat.blt k len then some (.pointer (some ⟨b, Nat.add o (Nat.mul k n), none⟩)) else none | none => none)
    | .arr len e, .pointer (some ⟨b, o, none⟩), .int _ (.ofNat k) => (match sizeT T e with | some n => bif Nat.blt k len then some (.pointer (some ⟨b, Nat.add o (Nat.mul k n), none⟩)) else none | none => none)
    | _, _, _ => none)
  | none => none

theorem iadC_ok {T : Nat → Option TInf} {ι : Ren} {t : Nat} {x y x' y' v : Value} (hx : VR ι x x') (hy : VR ι y y') (h : iadC T t x y = some v) : Gives ι v (iadW T t x' y') := by
  unfold iadC at h
  split at h
  · rename_i ti hT
    split at h
    · rename_i e b o len cp kk k hd
      cases hx; cases hy
      rename_i i hi
      split at h
      · rename_i n hn
        cases hb : Nat.blt k len with
        | false => rw [hb] at h; cases h
        | true =>
          rw [hb] at h; cases h
          rw [blt_dec] at hb
          have hlt := of_decide_eq_true hb
          refine ⟨_, .ptr hi, fun K hk => optW_of hT ?_⟩
          rw [hd]
          refine optW_of hn ?_
          refine ⟨by simp only [Int.ofNat_eq_natCast]; omega, by simp only [Int.ofNat_eq_natCast]; omega, ?_⟩
          show optW (some _) _
          refine optW_of rfl ?_
          rw [add_ren]; exact hk
      · cases h
    · rename_i len e b o kk k hd
      cases hx; cases hy
      rename_i i hi
      split at h
      · rename_i n hn
        cases hb : Nat.blt k len with
        | false => rw [hb] at h; cases h
        | true =>
          rw [hb] at h; cases h
          rw [blt_dec] at hb
          have hlt := of_decide_eq_true hb
          refine ⟨_, .ptr hi, fun K hk => optW_of hT ?_⟩
          rw [hd]
          refine optW_of hn ?_
          refine ⟨by simp only [Int.ofNat_eq_natCast]; omega, by simp only [Int.ofNat_eq_natCast]; omega, ?_⟩
          rw [add_ren]; exact hk
      · cases h
    · cases h
  · cases h

noncomputable def nthB (l : List UInt8) : Nat → Nat :=
  List.rec (motive := fun _ => Nat → Nat) (fun _ => 0) (fun x _ ih k => Nat.rec (motive := fun _ => Nat) x.toNat (fun k _ => ih k) k) l
theorem nthB_eq (l : List UInt8) (k : Nat) : nthB l k = (l.getD k 0).toNat := by
  induction l generalizing k with
  | nil => rfl
  | cons x l ih =>
    cases k with
    | zero => rfl
    | succ k => exact ih k

noncomputable def idxC (T : Nat → Option TInf) (t : Nat) (x y : Value) : Option Value :=
  match T t with
  | some ti => (match ti.desc, x, y with
    | .string, .string s, .int _ (.ofNat k) => bif Nat.blt k (lenB s) then fN (nthB (lstB s) k) fun n => some (.int .u8 (.ofNat n)) else none
    | .arr len e, .agg ⟨cs⟩, .int _ (.ofNat k) => (match sizeT T e with | some n => bif Nat.blt k len then partC T e cs (Nat.mul k n) else none | none => none)
    | _, _, _ => none)
  | none => none

theorem idxC_ok {T : Nat → Option TInf} {ι : Ren} {t : Nat} {x y x' y' v : Value} (hx : VR ι x x') (hy : VR ι y y') (h : idxC T t x y = some v) : Gives ι v (idxW T t x' y') := by
  unfold idxC at h
  split at h
  · rename_i ti hT
    split at h
    · rename_i s kk k hd
      cases hx; cases hy
      rw [lenB_eq, fN_eq, nthB_eq] at h
      cases hb : Nat.blt k s.size with
      | false => rw [hb] at h; cases h
      | true =>
        rw [hb] at h; cases h
        rw [blt_dec] at hb
        have hlt := of_decide_eq_true hb
        refine ⟨_, .int .., fun K hk => optW_of hT ?_⟩
        rw [hd]
        exact ⟨by simp only [Int.ofNat_eq_natCast]; omega, by simp only [Int.ofNat_eq_natCast]; omega, hk⟩
    · rename_i len e cs kk k hd
      cases hx; cases hy
      rename_i cs' hcs
      split at h
      · rename_i n hn
        cases hb : Nat.blt k len with
        | false => rw [hb] at h; cases h
        | true =>
          rw [hb] at h
          rw [blt_dec] at hb
          have hlt := of_decide_eq_true hb
          obtain ⟨v', h1, h2⟩ := partC_ok hcs h
          refine ⟨_, h1, fun K hk => optW_of hT ?_⟩
          rw [hd]
          exact optW_of hn ⟨by simp only [Int.ofNat_eq_natCast]; omega, by simp only [Int.ofNat_eq_natCast]; omega, h2 K hk⟩
      · cases h
    · cases h
  · cases h

end Go.Sep
