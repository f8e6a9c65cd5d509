/- Runs of closed calls: slices, structs, conversions; all operations that change nothing. -/
import Derived.Test.YtgadojhdajmidaaGreatDoorSepV
set_option linter.unusedSimpArgs false
set_option linter.unusedVariables false
namespace Go.Sep

/-! ### Slices -/

noncomputable def bndC (o : Option Value) (dflt top : Nat) (K : Nat → Option Value) : Option Value :=
  match o with
  | none => fN dflt K
  | some (.int _ (.ofNat k)) => bif Nat.ble k top then fN k K else none
  | _ => none

inductive OR (ι : Ren) : Option Value → Option Value → Prop
  | none : OR ι none none
  | some {v v' : Value} (h : VR ι v v') : OR ι (some v) (some v')

theorem bndC_ok {ι : Ren} {o o' : Option Value} (ho : OR ι o o') {dflt top top' : Nat} (ht : top ≤ top') {K : Nat → Option Value} {v : Value} (h : bndC o dflt top K = some v) :
    ∃ k, K k = some v ∧ (k = dflt ∨ k ≤ top) ∧ (∀ K' : Nat → Prop, K' k → bndW o' dflt top' K') := by
  unfold bndC at h
  split at h
  · cases ho
    rw [fN_eq] at h
    exact ⟨dflt, h, .inl rfl, fun K' hk => hk⟩
  · rename_i kk k
    cases ho
    rename_i v' hv
    cases hv
    cases hb : Nat.ble k top with
    | false => rw [hb] at h; cases h
    | true =>
      rw [hb] at h
      simp only [cond_true, fN_eq] at h
      have hle := Nat.le_of_ble_eq_true hb
      refine ⟨k, h, .inr hle, fun K' hk => ?_⟩
      show 0 ≤ (Int.ofNat k) ∧ (Int.ofNat k) ≤ (top' : Int) ∧ K' (Int.ofNat k).toNat
      refine ⟨by simp only [Int.ofNat_eq_natCast]; omega, by simp only [Int.ofNat_eq_natCast]; omega, hk⟩
  · cases h

noncomputable def advC (a : Option Addr) (c l k : Nat) (K : Option Addr → Option Value) : Option Value :=
  match a with
  | none => K none
  | some ⟨b, o, none⟩ => bif Nat.beq l 0 then K (some ⟨b, o, none⟩) else bif Nat.beq l (Nat.div c 2) then (bif Nat.beq (Nat.mod c 2) 0 then K (some ⟨b, o, none⟩) else none)
    else fN (Nat.add o k) fun o => K (some ⟨b, o, none⟩)
  | _ => none

inductive AR (ι : Ren) : Option Addr → Option Addr → Prop
  | none : AR ι none none
  | some {b o : Nat} {i : RI} (h : ι b = some i) : AR ι (some ⟨b, o, none⟩) (some ⟨i.blk, o + i.sh, none⟩)

theorem advC_ok {ι : Ren} {b o : Nat} {i : RI} (hi : ι b = some i) {c l k cap : Nat} (hl : l ≤ c / 2) (hc : cap = capA c i.ex) {K : Option Addr → Option Value} {v : Value} (h : advC (some ⟨b, o, none⟩) c l k K = some v) :
    ∃ o2, K (some ⟨b, o2, none⟩) = some v ∧ adv (some ⟨i.blk, o + i.sh, none⟩) cap l k = some ⟨i.blk, o2 + i.sh, none⟩ := by
  simp only [advC, fN_eq] at h
  unfold adv
  cases h0 : Nat.beq l 0 with
  | true => rw [h0] at h; exact ⟨o, h, rfl⟩
  | false =>
    rw [h0] at h
    simp only [cond_false] at h ⊢
    cases h1 : Nat.beq l (Nat.div c 2) with
    | true =>
      rw [h1] at h
      simp only [cond_true] at h
      cases h2 : Nat.beq (Nat.mod c 2) 0 with
      | false => rw [h2] at h; cases h
      | true =>
        rw [h2] at h
        have e1 := Nat.eq_of_beq_eq_true h1
        have e2 := Nat.eq_of_beq_eq_true h2
        have e3 : c % 2 = 0 := e2
        have e4 : l = c / 2 := e1
        have : cap = l := by rw [hc, capA, e3, e4]; omega
        rw [if_pos this]
        exact ⟨o, h, rfl⟩
    | false =>
      rw [h1] at h
      have e1 := Nat.ne_of_beq_eq_false h1
      have e4 : l ≠ c / 2 := e1
      have : ¬ cap = l := by
        rw [hc, capA]
        have : c / 2 + c % 2 * i.ex ≥ c / 2 := Nat.le_add_right _ _
        omega
      rw [if_neg this]
      refine ⟨o + k, h, ?_⟩
      simp only [Option.map_some, add_ren]

noncomputable def slcC (T : Nat → Option TInf) (t : Nat) (x : Value) (lo hi mx : Option Value) : Option Value :=
  match T t with
  | some ti => (match ti.desc, x with
    | .string, .string s => (match mx with
      | none => fN (lenB s) fun n => bndC hi n n fun h => bndC lo 0 h fun l => fL (((lstB s).drop l).take (Nat.sub h l)) fun b => some (.string (mkB b))
      | some _ => none)
    | .slice e, .slice a len c => (match sizeT T e with
      | some n => (match mx with
        | none => fN (Nat.div c 2) fun c2 => bndC hi len c2 fun h => bif Nat.ble h c2 then (bndC lo 0 h fun l => bif Nat.beq l c2 && (!Nat.beq l 0 && Nat.beq (Nat.mod c 2) 1) then some (.slice (some ⟨0, 0, some 0⟩) 0 0) else
          advC a c l (Nat.mul l n) fun a => fN (Nat.sub h l) fun hl => fN (Nat.sub c (Nat.mul 2 l)) fun cc => some (.slice a hl cc)) else none
        | some _ => bndC mx 0 (Nat.div c 2) fun m => (match hi with
          | none => none
          | some _ => bndC hi 0 m fun h => bndC lo 0 h fun l => advC a (Nat.mul 2 m) l (Nat.mul l n) fun a => fN (Nat.sub h l) fun hl => fN (Nat.mul 2 (Nat.sub m l)) fun cc => some (.slice a hl cc)))
      | none => none)
    | _, _ => none)
  | none => none

theorem slcC_ok {T : Nat → Option TInf} {ι : Ren} {t : Nat} {x x' : Value} {lo hi mx lo' hi' mx' : Option Value} {v : Value} (hx : VR ι x x') (hlo : OR ι lo lo') (hhi : OR ι hi hi') (hmx : OR ι mx mx')
    (h : slcC T t x lo hi mx = some v) : Gives ι v (slcW T t x' lo' hi' mx') := by
  unfold slcC at h
  split at h
  · rename_i ti hT
    split at h
    · rename_i s hd
      cases hx
      split at h
      · cases hmx
        rw [fN_eq, lenB_eq] at h
        obtain ⟨kh, h1, h2, h3⟩ := bndC_ok hhi (Nat.le_refl _) h
        obtain ⟨kl, h4, h5, h6⟩ := bndC_ok hlo (Nat.le_refl _) h1
        rw [fL_eq] at h4
        cases h4
        refine ⟨_, .str _, fun K hk => optW_of hT ?_⟩
        rw [hd]
        simp only [asS, asSl]
        refine h3 _ ?_
        refine h6 _ ?_
        have : mkB (((lstB s).drop kl).take (Nat.sub kh kl)) = s.extract kl kh := mkB_extract s kl kh
        rw [← this]; exact hk
      · cases h
    · rename_i e a len c hd
      split at h
      · rename_i n hn
        split at h
        · cases hmx
          rw [fN_eq] at h
          cases hx with
          | nilSlice =>
            obtain ⟨kh, h1, h2, h3⟩ := bndC_ok hhi (Nat.le_refl _) h
            obtain rfl : kh = 0 := by have : Nat.div 0 2 = 0 := rfl; omega
            have h1' : bndC lo 0 0 (fun l => bif Nat.beq l (Nat.div 0 2) && (!Nat.beq l 0 && Nat.beq (Nat.mod 0 2) 1) then some (.slice (some ⟨0, 0, some 0⟩) 0 0) else advC none 0 l (Nat.mul l n) fun a => fN (Nat.sub 0 l) fun hl => fN (Nat.sub 0 (Nat.mul 2 l)) fun cc => some (.slice a hl cc)) = some v := h1
            obtain ⟨kl, h4, h5, h6⟩ := bndC_ok hlo (Nat.le_refl _) h1'
            obtain rfl : kl = 0 := by omega
            have h4' : advC none 0 0 (Nat.mul 0 n) (fun a => fN (Nat.sub 0 0) fun hl => fN (Nat.sub 0 (Nat.mul 2 0)) fun cc => some (.slice a hl cc)) = some v := h4
            simp only [advC, fN_eq] at h4'
            cases h4'
            refine ⟨_, .nilSlice, fun K hk => optW_of hT ?_⟩
            rw [hd]
            refine optW_of hn ?_
            simp only [asS, asSl]
            refine h3 _ ?_
            exact h6 _ hk
          | slice hi2 =>
            rename_i b o i
            have hcap : Nat.div c 2 ≤ capA c i.ex := Nat.le_add_right _ _
            obtain ⟨kh, h1, h2, h3⟩ := bndC_ok hhi hcap h
            cases hb : Nat.ble kh (Nat.div c 2) with
            | false => rw [hb] at h1; cases h1
            | true =>
              rw [hb] at h1
              simp only [cond_true] at h1
              have hkh : kh ≤ c / 2 := Nat.le_of_ble_eq_true hb
              obtain ⟨kl, h4, h5, h6⟩ := bndC_ok hlo (Nat.le_refl _) h1
              have hkl : kl ≤ kh := by omega
              cases hed : (Nat.beq kl (Nat.div c 2) && (!Nat.beq kl 0 && Nat.beq (Nat.mod c 2) 1)) with
              | true =>
                rw [hed] at h4; cases h4
                simp only [Bool.and_eq_true] at hed
                have hk2 : kl = c / 2 := Nat.eq_of_beq_eq_true hed.1
                have hz : kh - kl = 0 := by omega
                obtain ⟨a2, ha2⟩ : ∃ a2, adv (some ⟨i.blk, o + i.sh, none⟩) (capA c i.ex) kl (kl * n) = some a2 := by
                  unfold adv
                  cases Nat.beq kl 0 with
                  | true => exact ⟨_, rfl⟩
                  | false =>
                    simp only [cond_false]
                    split
                    · exact ⟨_, rfl⟩
                    · exact ⟨_, rfl⟩
                refine ⟨_, .empS (a := a2) (c := capA c i.ex - kl), fun K hk => optW_of hT ?_⟩
                rw [hd]
                refine optW_of hn ?_
                simp only [asSl]
                refine h3 _ ?_
                refine h6 _ ?_
                rw [ha2, hz]
                exact hk
              | false =>
              rw [hed] at h4
              simp only [cond_false] at h4
              obtain ⟨o2, h7, h8⟩ := advC_ok hi2 (by omega) rfl h4
              rw [fN_eq, fN_eq] at h7
              cases h7
              refine ⟨_, .slice hi2, fun K hk => optW_of hT ?_⟩
              rw [hd]
              refine optW_of hn ?_
              simp only [asS, asSl]
              refine h3 _ ?_
              refine h6 _ ?_
              have e1 : capA (Nat.sub c (Nat.mul 2 kl)) i.ex = capA c i.ex - kl := by
                have e2 : Nat.sub c (Nat.mul 2 kl) = c - 2 * kl := rfl
                rw [e2, capA, capA]
                have e3 : (c - 2 * kl) % 2 = c % 2 := by omega
                have e4 : (c - 2 * kl) / 2 = c / 2 - kl := by omega
                rw [e3, e4]
                omega
              rw [e1] at hk
              have h8' : adv (some ⟨i.blk, o + i.sh, none⟩) (capA c i.ex) kl (kl * n) = some ⟨i.blk, o2 + i.sh, none⟩ := h8
              rw [h8']
              exact hk
          | empS =>
            exfalso
            obtain ⟨kh, h1, h2, h3⟩ := bndC_ok hhi (Nat.le_refl _) h
            obtain rfl : kh = 0 := by have : Nat.div 0 2 = 0 := rfl; omega
            have h1' : bndC lo 0 0 (fun l => bif Nat.beq l (Nat.div 0 2) && (!Nat.beq l 0 && Nat.beq (Nat.mod 0 2) 1) then some (.slice (some ⟨0, 0, some 0⟩) 0 0) else advC (some ⟨0, 0, some 0⟩) 0 l (Nat.mul l n) fun a => fN (Nat.sub 0 l) fun hl => fN (Nat.sub 0 (Nat.mul 2 l)) fun cc => some (.slice a hl cc)) = some v := h1
            obtain ⟨kl, h4, h5, h6⟩ := bndC_ok hlo (Nat.le_refl _) h1'
            obtain rfl : kl = 0 := by omega
            cases h4
        · rename_i mv
          cases hmx
          rename_i mv' hmv
          cases hx with
          | empS =>
            exfalso
            obtain ⟨km, g1, g2, g3⟩ := bndC_ok (.some hmv) (Nat.le_refl _) h
            split at g1
            · cases g1
            · cases hhi
              rename_i hv hv' hhv
              obtain ⟨kh, h1, h2, h3⟩ := bndC_ok (.some hhv) (Nat.le_refl _) g1
              obtain ⟨kl, h4, h5, h6⟩ := bndC_ok hlo (Nat.le_refl _) h1
              cases h4
          | nilSlice =>
            obtain ⟨km, g1, g2, g3⟩ := bndC_ok (.some hmv) (Nat.le_refl _) h
            obtain rfl : km = 0 := by have : Nat.div 0 2 = 0 := rfl; omega
            split at g1
            · cases g1
            · cases hhi
              rename_i hv hv' hhv
              obtain ⟨kh, h1, h2, h3⟩ := bndC_ok (.some hhv) (Nat.le_refl _) g1
              obtain rfl : kh = 0 := by omega
              obtain ⟨kl, h4, h5, h6⟩ := bndC_ok hlo (Nat.le_refl _) h1
              obtain rfl : kl = 0 := by omega
              simp only [advC, fN_eq] at h4
              cases h4
              refine ⟨_, .nilSlice, fun K hk => optW_of hT ?_⟩
              rw [hd]
              refine optW_of hn ?_
              simp only [asSl]
              refine g3 _ ?_
              refine h3 _ ?_
              exact h6 _ hk
          | slice hi2 =>
            rename_i b o i
            have hcap : Nat.div c 2 ≤ capA c i.ex := Nat.le_add_right _ _
            obtain ⟨km, g1, g2, g3⟩ := bndC_ok (.some hmv) hcap h
            split at g1
            · cases g1
            · cases hhi
              rename_i hv hv' hhv
              obtain ⟨kh, h1, h2, h3⟩ := bndC_ok (.some hhv) (Nat.le_refl _) g1
              obtain ⟨kl, h4, h5, h6⟩ := bndC_ok hlo (Nat.le_refl _) h1
              have hkl : kl ≤ km := by omega
              have e5 : Nat.mul 2 km = 2 * km := rfl
              have e6 : capA (Nat.mul 2 km) i.ex = km := by
                rw [e5, capA]
                have : 2 * km % 2 = 0 := by omega
                rw [this]; omega
              obtain ⟨o2, h7, h8⟩ := advC_ok hi2 (by rw [e5]; omega) e6.symm h4
              rw [fN_eq, fN_eq] at h7
              cases h7
              refine ⟨_, .slice hi2, fun K hk => optW_of hT ?_⟩
              rw [hd]
              refine optW_of hn ?_
              simp only [asSl]
              refine g3 _ ?_
              refine h3 _ ?_
              refine h6 _ ?_
              have e1 : capA (Nat.mul 2 (Nat.sub km kl)) i.ex = km - kl := by
                have e2 : Nat.mul 2 (Nat.sub km kl) = 2 * (km - kl) := rfl
                rw [e2, capA]
                have : 2 * (km - kl) % 2 = 0 := by omega
                rw [this]; omega
              rw [e1] at hk
              have h8' : adv (some ⟨i.blk, o + i.sh, none⟩) km kl (kl * n) = some ⟨i.blk, o2 + i.sh, none⟩ := h8
              rw [h8']
              exact hk
      · cases h
    · cases h
  · cases h

end Go.Sep
