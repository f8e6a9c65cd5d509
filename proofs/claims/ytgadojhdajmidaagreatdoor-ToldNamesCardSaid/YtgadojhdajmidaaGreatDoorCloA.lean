/- Runs of closed calls: appending and copying. -/
import Derived.Test.YtgadojhdajmidaaGreatDoorSepZ
set_option linter.unusedSimpArgs false
set_option linter.unusedVariables false
namespace Go.Sep

/-- The cells of a slice's elements. -/
noncomputable def ldsC (a : Option Addr) (n : Nat) (τ : VH) : Option (List Value) :=
  bif Nat.beq n 0 then some [] else
  match a with
  | some ⟨b, o, none⟩ => (match τ.rows.get b with
    | some (.own _ cells len _) => bif Nat.ble (Nat.add o n) len then gat cells n o else none
    | _ => none)
  | _ => none

theorem ldsC_ok {T : Nat → Option TInf} {ι : Ren} {τ : VH} {σ : SHeap} (hr : HR T ι τ σ) {a a' : Option Addr} (ha : AR ι a a') {m n : Nat} {l : List Value} (h : ldsC a (Nat.mul m n) τ = some l) :
    ∃ l', σ.ldS a' m n = some l' ∧ VRs ι l l' := by
  unfold ldsC at h
  unfold SHeap.ldS
  have e : Nat.beq (Nat.mul m n) 0 = Nat.beq (m * n) 0 := rfl
  cases h0 : Nat.beq (m * n) 0 with
  | true => rw [e, h0] at h; cases h; exact ⟨[], rfl, .nil⟩
  | false =>
    rw [e, h0] at h
    simp only [cond_false] at h ⊢
    split at h
    · rename_i b o
      cases ha
      rename_i i hi
      split at h
      · rename_i e cells len room hb
        cases hle : Nat.ble (Nat.add o (Nat.mul m n)) len with
        | false => rw [hle] at h; cases h
        | true =>
          rw [hle] at h
          have hle' := Nat.le_of_ble_eq_true hle
          obtain ⟨vs, h1, h2, h3⟩ := ld_of hr hi hb (o := o) (n := m * n) hle'
          exact ⟨_, h3, gat_ok h1 h2 hle' h⟩
      · cases h
    · cases h

noncomputable def srcC (x : Value) (n : Nat) (τ : VH) : Option (Nat × List Value) :=
  match x with
  | .slice a m _ => (match ldsC a (Nat.mul m n) τ with | some l => some (m, l) | none => none)
  | .string s => bif Nat.beq n 1 then fN (lenB s) fun k => some (k, (lstB s).map fun b => .int .u8 (.ofNat b.toNat)) else none
  | _ => none

theorem ints_vr {ι : Ren} : ∀ (l : List UInt8), VRs ι (l.map fun b => .int .u8 (.ofNat b.toNat)) (l.map fun b => .int .u8 b.toNat)
  | [] => .nil
  | _ :: l => .cons (.int _ _) (ints_vr l)

theorem srcC_ok {T : Nat → Option TInf} {ι : Ren} {τ : VH} {σ : SHeap} (hr : HR T ι τ σ) {x x' : Value} (hx : VR ι x x') {n m : Nat} {l : List Value} (h : srcC x n τ = some (m, l)) :
    ∃ l', VRs ι l l' ∧ ∀ K : Nat → List Value → Prop, K m l' → srcW σ x' n K := by
  unfold srcC at h
  split at h
  · rename_i a k c
    split at h
    · rename_i l2 hl
      cases h
      have key : ∀ {a'}, AR ι a a' → ∀ c', ∃ l', VRs ι l l' ∧ ∀ K : Nat → List Value → Prop, K m l' → srcW σ (.slice a' m c') n K := fun ha c' => by
        obtain ⟨l', h1, h2⟩ := ldsC_ok hr ha hl
        exact ⟨l', h2, fun K hk => optW_of h1 hk⟩
      cases hx with
      | nilSlice => exact key .none _
      | empS =>
        have h0 : ldsC (some ⟨0, 0, some 0⟩) (Nat.mul 0 n) τ = some [] := by
          have : Nat.mul 0 n = 0 := Nat.zero_mul n
          unfold ldsC; rw [this]; rfl
        rw [h0] at hl; cases hl
        refine ⟨[], .nil, fun K hk => ?_⟩
        have h1 : ∀ a, σ.ldS a 0 n = some [] := fun a => by
          unfold SHeap.ldS; rw [Nat.zero_mul]; rfl
        exact optW_of (h1 _) hk
      | slice hi => exact key (.some hi) _
    · cases h
  · rename_i s
    cases hx
    cases hn : Nat.beq n 1 with
    | false => rw [hn] at h; cases h
    | true =>
      rw [hn] at h
      simp only [cond_true, fN_eq, lenB_eq] at h
      cases h
      refine ⟨_, ints_vr (lstB s), fun K hk => ?_⟩
      simp only [srcW, hn, cond_true]
      exact hk
  · cases h

noncomputable def growC (e _n : Nat) (l1 l2 : List Value) (k : Nat) (τ : VH) : Option (Value × VH) :=
  fL (l1 ++ l2) fun l => fN (lenL l) fun N => some (.slice (some ⟨τ.next, 0, none⟩) k (Nat.succ (Nat.mul 2 k)), τ.add (.own e (upds l .e 0) N 0))

def spotless : Option Addr → Bool
  | some ⟨_, _, some _⟩ => false
  | _ => true

noncomputable def apC (T : Nat → Option TInf) (t xt : Nat) (s x : Value) (τ : VH) : Option (Value × VH) :=
  match elemOfSl T t, descOf T xt, s with
  | some e, some dx, .slice a len c => bif spotless a then (match T e with
    | some i => bif Nat.ble i.bytes 4096 && apFit dx then (match srcC x i.size τ with
      | some (m, l2) =>
        bif Nat.beq m 0 then (bif Nat.ble len (Nat.div c 2) then some (.slice a len c, τ) else none) else
        fN (Nat.add len m) fun k =>
        bif Nat.ble k 4294967296 then
          bif Nat.beq (Nat.mod c 2) 0 && Nat.blt (Nat.div c 2) k then (match ldsC a (Nat.mul len i.size) τ with | some l1 => growC e i.size l1 l2 k τ | none => none)
          else (match a with
            | some ⟨b, o, none⟩ => (match τ.rows.get b with
              | some (.own e' cells n room) =>
                bif Nat.beq e' e && (Nat.ble (Nat.add o (Nat.mul (Nat.div c 2) i.size)) n && Nat.ble (Nat.add o (Nat.mul len i.size)) n) then
                  bif Nat.beq o 0 then fN (Nat.add (Nat.mul len i.size) (lenL l2)) fun N => some (.slice (some ⟨τ.next, 0, none⟩) k (Nat.succ (Nat.mul 2 k)), (τ.del b).add (.own e (upds l2 cells (Nat.mul len i.size)) N 0))
                  else (match gat cells (Nat.mul len i.size) o with | some l1 => growC e i.size l1 l2 k (τ.del b) | none => none)
                else none
              | _ => none)
            | _ => none)
        else none
      | none => none) else none
    | none => none) else none
  | _, _, _ => none

theorem capA_odd (k ex : Nat) : capA (Nat.succ (Nat.mul 2 k)) ex = k + ex := by
  have : Nat.succ (Nat.mul 2 k) = 2 * k + 1 := rfl
  rw [this, capA]
  have h1 : (2 * k + 1) / 2 = k := by omega
  have h2 : (2 * k + 1) % 2 = 1 := by omega
  rw [h1, h2, Nat.one_mul]

theorem grow_fin {T : Nat → Option TInf} {ι : Ren} {τ : VH} {σ : SHeap} (hr : HR T ι τ σ) {e : Nat} {i : TInf} (hi : T e = some i) {cells : HT Value} {N : Nat} {l' : List Value} (hlen : l'.length = N)
    (hc : ∀ j, j < N → ∃ v v', cells.get j = some v ∧ l'[j]? = some v' ∧ VR ι v v') {k : Nat} {K : Value → SHeap → Prop} {v : Value} {τ' : VH} (hv : v = .slice (some ⟨τ.next, 0, none⟩) k (Nat.succ (Nat.mul 2 k))) (ht : τ' = τ.add (.own e cells N 0))
    (hk : ∀ ι' v' σ', Ext ι τ ι' τ' → VR ι' v v' → HR T ι' τ' σ' → K v' σ') {b o room : Nat} (hb : σ b = none) :
    K (.slice (some ⟨b, o, none⟩) k (k + room)) (σ.set b (.own e o l' (room * i.size))) := by
  have hle := hr.addLe ⟨b, o, room⟩
  have hrr : RR T (ι.add τ.next ⟨b, o, room⟩) ⟨b, o, room⟩ (.own e cells N 0) (.own e o l' (room * i.size)) := by
    refine ⟨i, l', hi, by simp, ⟨hlen, fun h => by cases h⟩, fun j hj => ?_⟩
    obtain ⟨x, x', h1, h2, h3⟩ := hc j hj
    exact ⟨x, x', h1, h2, h3.mono hle⟩
  obtain ⟨h1, h2⟩ := hr.new (i := ⟨b, o, room⟩) hb hrr
  subst hv; subst ht
  have h3 : VR (ι.add τ.next ⟨b, o, room⟩) (.slice (some ⟨τ.next, 0, none⟩) k (Nat.succ (Nat.mul 2 k))) (.slice (some ⟨b, 0 + o, none⟩) k (capA (Nat.succ (Nat.mul 2 k)) room)) := .slice (Ren.add_same ..)
  rw [capA_odd, Nat.zero_add] at h3
  exact hk _ _ _ h1 h3 h2

theorem growC_fin {T : Nat → Option TInf} {ι : Ren} {τ : VH} {σ : SHeap} (hr : HR T ι τ σ) {e : Nat} {i : TInf} (hi : T e = some i) {l1 l2 l1' l2' : List Value} (h1 : VRs ι l1 l1') (h2 : VRs ι l2 l2') {k : Nat} {v : Value} {τ' : VH}
    (h : growC e i.size l1 l2 k τ = some (v, τ')) {K : Value → SHeap → Prop} (hk : ∀ ι' v' σ', Ext ι τ ι' τ' → VR ι' v v' → HR T ι' τ' σ' → K v' σ') {b o room : Nat} (hb : σ b = none) :
    K (.slice (some ⟨b, o, none⟩) k (k + room)) (σ.set b (.own e o (l1' ++ l2') (room * i.size))) := by
  unfold growC at h
  rw [fL_eq, fN_eq, lenL_eq] at h
  cases h
  have ha := h1.append h2
  exact grow_fin hr hi ha.length (cells_new ha) rfl rfl hk hb

theorem ar_of_slice {ι : Ren} {a : Option Addr} {len c : Nat} {x : Value} (h : VR ι (.slice a len c) x) (hsp : spotless a = true) : ∃ a' ex, x = .slice a' len (capA c ex) ∧ AR ι a a' ∧ ∀ b o, a = some ⟨b, o, none⟩ → ∃ i, ι b = some i ∧ ex = i.ex ∧ a' = some ⟨i.blk, o + i.sh, none⟩ := by
  cases h with
  | nilSlice => exact ⟨none, 0, rfl, .none, fun b o h => by cases h⟩
  | empS => cases hsp
  | slice hi => exact ⟨_, _, rfl, .some hi, fun b o h => by cases h; exact ⟨_, hi, rfl, rfl⟩⟩

theorem apC_ok {T : Nat → Option TInf} {ι : Ren} {τ : VH} {σ : SHeap} (hr : HR T ι τ σ) {t xt : Nat} {s x s' x' v : Value} {τ' : VH} (hs : VR ι s s') (hx : VR ι x x') (h : apC T t xt s x τ = some (v, τ')) :
    Gives2 T ι τ v τ' (apW T t xt s' x' σ) := by
  unfold apC at h
  split at h
  · rename_i e dx a len c he hdx
    have hsp : spotless a = true := by
      cases hsp : spotless a with
      | true => rfl
      | false => rw [hsp] at h; cases h
    rw [hsp] at h
    simp only [cond_true] at h
    obtain ⟨a', ex, rfl, har, haw⟩ := ar_of_slice hs hsp
    split at h
    · rename_i i hi
      cases hq : (Nat.ble i.bytes 4096 && apFit dx) with
      | false => rw [hq] at h; cases h
      | true =>
        rw [hq] at h
        simp only [cond_true] at h
        split at h
        · rename_i m l2 hsrc
          obtain ⟨l2', h2, hsrc'⟩ := srcC_ok hr hx hsrc
          have key : ∀ K, apX e i.size a' len (capA c ex) m l2' σ K → apW T t xt (.slice a' len (capA c ex)) x' σ K := fun K hk => by
            refine optW_of he (optW_of hi (optW_of hdx ?_))
            rw [hq]
            exact hsrc' _ hk
          intro K hk
          refine key K ?_
          have hcap : c / 2 ≤ capA c ex := Nat.le_add_right _ _
          cases hm : Nat.beq m 0 with
          | true =>
            rw [hm] at h
            simp only [cond_true] at h
            cases hl : Nat.ble len (Nat.div c 2) with
            | false => rw [hl] at h; cases h
            | true =>
              rw [hl] at h; cases h
              have hl' : len ≤ c / 2 := Nat.le_of_ble_eq_true hl
              exact .inl ⟨Nat.eq_of_beq_eq_true hm, by omega, hk _ _ _ (Ext.refl _ _) hs hr⟩
          | false =>
            rw [hm] at h
            simp only [cond_false, fN_eq] at h
            cases hk1 : Nat.ble (Nat.add len m) 4294967296 with
            | false => rw [hk1] at h; cases h
            | true =>
              rw [hk1] at h
              simp only [cond_true] at h
              refine .inr ⟨Nat.le_of_ble_eq_true hk1, ?_⟩
              cases hc : (Nat.beq (Nat.mod c 2) 0 && Nat.blt (Nat.div c 2) (Nat.add len m)) with
              | true =>
                rw [hc] at h
                simp only [cond_true] at h
                rw [Bool.and_eq_true] at hc
                have c1 : c % 2 = 0 := Nat.eq_of_beq_eq_true hc.1
                have c2 : c / 2 < len + m := by have := hc.2; rw [blt_dec] at this; exact of_decide_eq_true this
                split at h
                · rename_i l1 hl1
                  obtain ⟨l1', g1, g2⟩ := ldsC_ok hr har hl1
                  refine ⟨l1', g1, .inl ⟨?_, fun b room hb => ?_⟩⟩
                  · rw [capA, c1]; omega
                  · exact growC_fin hr hi g2 h2 h hk hb
                · cases h
              | false =>
                rw [hc] at h
                simp only [cond_false] at h
                split at h
                · rename_i b o
                  obtain ⟨ri, hri, rfl, rfl⟩ := haw b o rfl
                  split at h
                  · rename_i e' cells n room hb
                    cases hd : (Nat.beq e' e && (Nat.ble (Nat.add o (Nat.mul (Nat.div c 2) i.size)) n && Nat.ble (Nat.add o (Nat.mul len i.size)) n)) with
                    | false => rw [hd] at h; cases h
                    | true =>
                      rw [hd] at h
                      simp only [cond_true] at h
                      rw [Bool.and_eq_true, Bool.and_eq_true] at hd
                      obtain rfl := Nat.eq_of_beq_eq_true hd.1
                      have d1 : o + c / 2 * i.size ≤ n := Nat.le_of_ble_eq_true hd.2.1
                      have d2 : o + len * i.size ≤ n := Nat.le_of_ble_eq_true hd.2.2
                      obtain ⟨r', k1, k2⟩ := hr.rows b ri _ hri hb
                      obtain ⟨inf, vs, k3, rfl, k5, k6⟩ := k2.own_elim
                      rw [hi] at k3; cases k3
                      obtain ⟨vs2, g1, g2, g3⟩ := ld_of hr hri hb (o := o) (n := len * i.size) d2
                      obtain ⟨x1, x2⟩ := hr.del hri hb
                      have hlds : σ.ldS (some ⟨ri.blk, o + ri.sh, none⟩) len i.size = some ((vs2.drop o).take (len * i.size)) := by
                        unfold SHeap.ldS
                        cases h0 : Nat.beq (len * i.size) 0 with
                        | true => rw [Nat.eq_of_beq_eq_true h0, List.take_zero]; rfl
                        | false => exact g3
                      refine ⟨_, hlds, .inr ⟨_, ri.sh, vs, _, rfl, rfl, k1, by simp, ?_, fun b2 o2 room2 hb2 => ?_⟩⟩
                      · show o + ri.sh + capA c ri.ex * i.size ≤ ri.sh + vs.length + (ri.ex * i.size)
                        have : capA c ri.ex * i.size ≤ c / 2 * i.size + ri.ex * i.size := by
                          rw [← Nat.add_mul]
                          refine Nat.mul_le_mul_right _ ?_
                          rw [capA]
                          have : c % 2 * ri.ex ≤ 1 * ri.ex := Nat.mul_le_mul_right _ (by omega)
                          omega
                        omega
                      · have hk' : ∀ ι' v' σ', Ext ι (τ.del b) ι' τ' → VR ι' v v' → HR T ι' τ' σ' → K v' σ' := fun ι' v' σ' q1 q2 q3 => hk ι' v' σ' (x1.trans q1) q2 q3
                        cases ho : Nat.beq o 0 with
                        | true =>
                          rw [ho] at h
                          simp only [cond_true, fN_eq, lenL_eq] at h
                          cases h
                          obtain rfl := Nat.eq_of_beq_eq_true ho
                          refine grow_fin (N := len * i.size + l2.length) x2 hi ?_ ?_ rfl rfl hk' hb2
                          · simp only [List.length_append, List.length_take, List.drop_zero, h2.length]
                            rw [Nat.min_eq_left (by omega)]
                          · intro j hj
                            rw [upds_get]
                            have e0 : Nat.mul len i.size = len * i.size := rfl
                            rw [e0]
                            by_cases hjl : j < len * i.size
                            · obtain ⟨y, y', y1, y2, y3⟩ := g2 j (by omega)
                              refine ⟨y, y', by rw [if_neg (by omega), y1], ?_, y3⟩
                              rw [List.getElem?_append_left (by simp only [List.drop_zero, List.length_take]; omega)]
                              simp only [List.drop_zero]
                              rw [List.getElem?_take, if_pos hjl, y2]
                            · obtain ⟨y, y', y1, y2, y3⟩ := h2.getR (n := j - len * i.size) (by omega)
                              refine ⟨y, y', by rw [if_pos (by omega), y1], ?_, y3⟩
                              rw [List.getElem?_append_right (by simp only [List.drop_zero, List.length_take]; omega)]
                              simp only [List.drop_zero, List.length_take]
                              rw [Nat.min_eq_left (by omega), y2]
                        | false =>
                          rw [ho] at h
                          simp only [cond_false] at h
                          split at h
                          · rename_i l1 hl1
                            exact growC_fin x2 hi (gat_ok g1 g2 d2 hl1) h2 h hk' hb2
                          · cases h
                  · cases h
                · cases h
        · cases h
    · cases h
  · cases h

noncomputable def cpC (T : Nat → Option TInf) (t : Nat) (d s : Value) (τ : VH) : Option (Value × VH) :=
  match elemOfSl T t, d with
  | some e, .slice a dl _ => bif spotless a then (match sizeT T e with
    | some n => (match srcC s n τ with
      | some (m, l) => bif Nat.beq dl 0 || Nat.beq m 0 then some (.int .i64 (.ofNat 0), τ) else
        bif Nat.ble m dl then (match a with
          | some ⟨b, o, none⟩ => (match τ.rows.get b with
            | some (.own e' cells len room) => bif Nat.ble (Nat.add o (lenL l)) len then some (.int .i64 (.ofNat m), τ.put b (.own e' (upds l cells o) len room)) else none
            | _ => none)
          | _ => none) else none
      | none => none)
    | none => none) else none
  | _, _ => none

theorem cpC_ok {T : Nat → Option TInf} {ι : Ren} {τ : VH} {σ : SHeap} (hr : HR T ι τ σ) {t : Nat} {s x s' x' v : Value} {τ' : VH} (hs : VR ι s s') (hx : VR ι x x') (h : cpC T t s x τ = some (v, τ')) :
    Gives2 T ι τ v τ' (cpW T t s' x' σ) := by
  unfold cpC at h
  split at h
  · rename_i e a dl c he
    have hsp : spotless a = true := by
      cases hsp : spotless a with
      | true => rfl
      | false => rw [hsp] at h; cases h
    rw [hsp] at h
    simp only [cond_true] at h
    obtain ⟨a', ex, rfl, har, haw⟩ := ar_of_slice hs hsp
    split at h
    · rename_i n hn
      split at h
      · rename_i m l hsrc
        obtain ⟨l', h2, hsrc'⟩ := srcC_ok hr hx hsrc
        intro K hk
        refine optW_of he (optW_of hn ?_)
        simp only [asSl]
        refine hsrc' _ ?_
        cases hz : (Nat.beq dl 0 || Nat.beq m 0) with
        | true =>
          rw [hz] at h; cases h
          refine .inl ⟨?_, hk _ _ _ (Ext.refl _ _) (.int _ _) hr⟩
          rw [Bool.or_eq_true] at hz
          exact hz.imp Nat.eq_of_beq_eq_true Nat.eq_of_beq_eq_true
        | false =>
          rw [hz] at h
          simp only [cond_false] at h
          cases hm : Nat.ble m dl with
          | false => rw [hm] at h; cases h
          | true =>
            rw [hm] at h
            simp only [cond_true] at h
            split at h
            · rename_i b o
              obtain ⟨i, hi, rfl, rfl⟩ := haw b o rfl
              split at h
              · rename_i e' cells len room hb
                rw [lenL_eq] at h
                cases hle : Nat.ble (Nat.add o l.length) len with
                | false => rw [hle] at h; cases h
                | true =>
                  rw [hle] at h; cases h
                  obtain ⟨σ', h3, h4, h5⟩ := st_of hr hi hb h2 (Nat.le_of_ble_eq_true hle)
                  exact .inr ⟨_, σ', rfl, Nat.le_of_ble_eq_true hm, h3, hk _ _ _ h4 (.int _ _) h5⟩
              · cases h
            · cases h
      · cases h
    · cases h
  · cases h

end Go.Sep
