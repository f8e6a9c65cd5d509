/- Runs of closed calls: maps and strings' runes; all operations that make or write memory. -/
import Derived.Test.YtgadojhdajmidaaGreatDoorCloA
set_option linter.unusedSimpArgs false
set_option linter.unusedVariables false
namespace Go.Sep

theorem sameNow_vr {ι : Ren} {d : TD} {kd : TypeDesc} (hd : keyD d = some kd) {k k' x x' : Value} (hk : VR ι k k') (hx : VR ι x x') {b : Bool} (h : Instr.sameNow kd k x = some b) : Instr.sameNow kd k' x' = some b := by
  cases d <;> simp only [keyD] at hd <;> cases hd <;> cases hk <;> cases hx <;> first | exact h | (simp [Instr.sameNow] at h)

inductive FR (ι : Ren) : Option (Nat × Value) → Option (Nat × Value) → Prop
  | none : FR ι none none
  | some {n : Nat} {v v' : Value} (h : VR ι v v') : FR ι (some (n, v)) (some (n, v'))

theorem findNow_vr {ι : Ren} {d : TD} {kd : TypeDesc} (hd : keyD d = some kd) {k k' : Value} (hk : VR ι k k') : ∀ {es es' : List MapEntry} {n : Nat} {f : Option (Nat × Value)}, MRs ι es es' → Instr.findNow kd k es n = some f →
    ∃ f', Instr.findNow kd k' es' n = some f' ∧ FR ι f f'
  | [], [], _, _, _, h => by simp only [Instr.findNow] at h ⊢; cases h; exact ⟨_, rfl, .none⟩
  | e :: es, e' :: es', n, f, hm, h => by
    simp only [Instr.findNow] at h ⊢
    split at h
    · rename_i hs
      cases h
      rw [sameNow_vr hd hk hm.1 hs]
      exact ⟨_, rfl, .some hm.2.1⟩
    · rename_i hs
      rw [sameNow_vr hd hk hm.1 hs]
      exact findNow_vr hd hk hm.2.2.2 h
    · cases h

noncomputable def mpC (T : Nat → Option TInf) (t : Nat) (m k : Value) (τ : VH) : Option (Nat × List MapEntry × Nat × Nat × Option (Nat × Value)) :=
  match mapOf T t, m with
  | some ke, .map (some r) => (match descOf T ke.1 with
    | some d => (match keyD d, τ.rows.get r with
      | some kd, some (.map es clk) => (match Instr.findNow kd k es 0 with | some f => some (r, es, clk, ke.2, f) | none => none)
      | _, _ => none)
    | none => none)
  | _, _ => none

theorem mpC_ok {T : Nat → Option TInf} {ι : Ren} {τ : VH} {σ : SHeap} (hr : HR T ι τ σ) {t : Nat} {m k m' k' : Value} (hm : VR ι m m') (hk : VR ι k k') {r : Nat} {es : List MapEntry} {clk e : Nat} {f : Option (Nat × Value)}
    (h : mpC T t m k τ = some (r, es, clk, e, f)) :
    ∃ i es' f', ι r = some i ∧ τ.rows.get r = some (.map es clk) ∧ m = .map (some r) ∧ i.sh = 0 ∧ MRs ι es es' ∧ FR ι f f' ∧ ∀ K : (r : Nat) → Array MapEntry → Nat → (elem : Nat) → Option (Nat × Value) → Prop, K i.blk ⟨es'⟩ clk e f' → mpW T t m' k' σ K := by
  unfold mpC at h
  split at h
  · rename_i ke r2 hke
    split at h
    · rename_i d hd
      split at h
      · rename_i kd es2 clk2 hkd hrow
        split at h
        · rename_i f2 hf
          cases h
          cases hm
          rename_i i hi
          obtain ⟨r', h1, h2⟩ := hr.rows _ i _ hi hrow
          obtain ⟨es', rfl, h3, h4⟩ := h2
          obtain ⟨f', h5, h6⟩ := findNow_vr hkd hk h3 hf
          refine ⟨i, es', f', hi, hrow, rfl, h4, h3, h6, fun K hK => optW_of hke (optW_of hd (optW_of hkd ?_))⟩
          simp only [h1]
          exact optW_of h5 hK
        · cases h
      · cases h
    · cases h
  · cases h

noncomputable def lkC (T : Nat → Option TInf) (t : Nat) (m k : Value) (ok : Bool) (τ : VH) : Option Value :=
  match m with
  | .map none => (match mapOf T t with
    | some ke => (match descOf T ke.1 with
      | some d => (match keyD d, T ke.2 with | some _, some i => some (bif ok then .tuple ⟨[i.zval, .bool false]⟩ else i.zval) | _, _ => none)
      | none => none)
    | none => none)
  | _ => (match mpC T t m k τ with
    | some (_, _, _, _, some p) => some (bif ok then .tuple ⟨[p.2, .bool true]⟩ else p.2)
    | some (_, _, _, e, none) => (match T e with | some i => some (bif ok then .tuple ⟨[i.zval, .bool false]⟩ else i.zval) | none => none)
    | none => none)

theorem lkC_ok {T : Nat → Option TInf} (hT : TCst T) {ι : Ren} {τ : VH} {σ : SHeap} (hr : HR T ι τ σ) {t : Nat} {m k m' k' v : Value} {ok : Bool} (hm : VR ι m m') (hk : VR ι k k') (h : lkC T t m k ok τ = some v) : Gives ι v (lkW T t m' k' ok σ) := by
  unfold lkC at h
  split at h
  · cases hm
    split at h
    · rename_i ke hke
      split at h
      · rename_i d hd
        split at h
        · rename_i kd i hkd hi
          cases h
          have hz := hT.zval (ι := ι) hi
          refine ⟨(bif ok then .tuple ⟨[i.zval, .bool false]⟩ else i.zval), ?_, fun K hK => optW_of hke (optW_of hd (optW_of hkd (optW_of hi hK)))⟩
          cases ok
          · exact hz
          · exact .tuple (.cons hz (.cons (.bool _) .nil))
        · cases h
      · cases h
    · cases h
  · rename_i hn
    have key : ∀ K : Value → Prop, mpW T t m' k' σ (fun _ _ _ e f => match f with
        | some p => K (bif ok then .tuple #[p.2, .bool true] else p.2)
        | none => optW (T e) fun i => K (bif ok then .tuple #[i.zval, .bool false] else i.zval)) → lkW T t m' k' ok σ K := by
      intro K hK
      unfold lkW
      cases hm <;> first | exact absurd rfl hn | exact hK
    split at h
    · rename_i p hp
      cases h
      obtain ⟨i, es', f', h1, h2, h3, h4, h5, h6, h7⟩ := mpC_ok hr hm hk hp
      cases h6
      rename_i n v v' hv
      refine ⟨(bif ok then .tuple ⟨[v', .bool true]⟩ else v'), ?_, fun K hK => key K (h7 _ hK)⟩
      cases ok
      · exact hv
      · exact .tuple (.cons hv (.cons (.bool _) .nil))
    · rename_i e hp
      obtain ⟨i, es', f', h1, h2, h3, h4, h5, h6, h7⟩ := mpC_ok hr hm hk hp
      cases h6
      split at h
      · rename_i inf hi
        cases h
        have hz := hT.zval (ι := ι) hi
        refine ⟨(bif ok then .tuple ⟨[inf.zval, .bool false]⟩ else inf.zval), ?_, fun K hK => key K (h7 _ (optW_of hi hK))⟩
        cases ok
        · exact hz
        · exact .tuple (.cons hz (.cons (.bool _) .nil))
      · cases h
    · cases h

theorem MRs.append {ι : Ren} : ∀ {l l' m m' : List MapEntry}, MRs ι l l' → MRs ι m m' → MRs ι (l ++ m) (l' ++ m')
  | [], [], _, _, _, h => h
  | _ :: _, _ :: _, _, _, h, h' => ⟨h.1, h.2.1, h.2.2.1, h.2.2.2.append h'⟩

theorem MRs.set {ι : Ren} {k k' v v' : Value} (hk : VR ι k k') (hv : VR ι v v') : ∀ {l l' : List MapEntry} (n : Nat), MRs ι l l' → MRs ι (l.modify n fun e => { e with key := k, val := v }) (l'.modify n fun e => { e with key := k', val := v' })
  | [], [], n, _ => by cases n <;> exact trivial
  | _ :: _, _ :: _, 0, h => ⟨hk, hv, h.2.2.1, h.2.2.2⟩
  | _ :: _, _ :: _, n + 1, h => ⟨h.1, h.2.1, h.2.2.1, h.2.2.2.set hk hv n⟩

theorem MRs.erase {ι : Ren} : ∀ {l l' : List MapEntry} (n : Nat), MRs ι l l' → MRs ι (l.eraseIdx n) (l'.eraseIdx n)
  | [], [], _, _ => trivial
  | _ :: _, _ :: _, 0, h => h.2.2.2
  | _ :: _, _ :: _, n + 1, h => ⟨h.1, h.2.1, h.2.2.1, h.2.2.2.erase n⟩

noncomputable def upC (T : Nat → Option TInf) (t : Nat) (m k v : Value) (τ : VH) : Option VH :=
  match mpC T t m k τ with
  | some (r, es, clk, _, some p) => some (τ.put r (.map (es.modify p.1 fun e => { e with key := k, val := v }) clk))
  | some (r, es, clk, _, none) => fL (es ++ [{ key := k, val := v, born := clk }]) fun es => some (τ.put r (.map es (Nat.succ clk)))
  | none => none

theorem upC_ok {T : Nat → Option TInf} {ι : Ren} {τ : VH} {σ : SHeap} (hr : HR T ι τ σ) {t : Nat} {m k v m' k' v' : Value} (hm : VR ι m m') (hk : VR ι k k') (hv : VR ι v v') {τ' : VH} (h : upC T t m k v τ = some τ') :
    ∀ K : SHeap → Prop, (∀ σ', Ext ι τ ι τ' → HR T ι τ' σ' → K σ') → upW T t m' k' v' σ K := by
  intro K hK
  unfold upC at h
  split at h
  · rename_i r es clk e p hp
    cases h
    obtain ⟨i, es', f', h1, h2, h3, h4, h5, h6, h7⟩ := mpC_ok hr hm hk hp
    cases h6
    rename_i n w w' hw
    refine h7 _ ?_
    have hrr : RR T ι i (.map (es.modify n fun e => { e with key := k, val := v }) clk) (.obj (mapPut ⟨es'⟩ clk (some (n, w')) k' v')) := ⟨es'.modify n fun e => { e with key := k', val := v' }, by simp only [mapPut]; congr 2; apply Array.toList_inj.1; simp, h5.set hk hv n, h4⟩
    obtain ⟨x1, x2⟩ := hr.put h1 h2 hrr
    exact hK _ x1 x2
  · rename_i hp
    rw [fL_eq] at h
    cases h
    obtain ⟨i, es', f', h1, h2, h3, h4, h5, h6, h7⟩ := mpC_ok hr hm hk hp
    cases h6
    refine h7 _ ?_
    rename_i es clk e
    have hrr : RR T ι i (.map (es ++ [{ key := k, val := v, born := clk }]) (Nat.succ clk)) (.obj (mapPut ⟨es'⟩ clk none k' v')) :=
      ⟨es' ++ [{ key := k', val := v', born := clk }], by simp only [mapPut]; congr 2; apply Array.toList_inj.1; simp, h5.append ⟨hk, hv, rfl, trivial⟩, h4⟩
    obtain ⟨x1, x2⟩ := hr.put h1 h2 hrr
    exact hK _ x1 x2
  · cases h

noncomputable def delC (T : Nat → Option TInf) (t : Nat) (m k : Value) (τ : VH) : Option VH :=
  match mpC T t m k τ with
  | some (r, es, clk, _, some p) => some (τ.put r (.map (es.eraseIdx p.1) clk))
  | some (r, es, clk, _, none) => some (τ.put r (.map es clk))
  | none => none

theorem delC_ok {T : Nat → Option TInf} {ι : Ren} {τ : VH} {σ : SHeap} (hr : HR T ι τ σ) {t : Nat} {m k m' k' : Value} (hm : VR ι m m') (hk : VR ι k k') {τ' : VH} (h : delC T t m k τ = some τ') :
    ∀ K : SHeap → Prop, (∀ σ', Ext ι τ ι τ' → HR T ι τ' σ' → K σ') → delW T t m' k' σ K := by
  intro K hK
  unfold delC at h
  split at h
  · rename_i r es clk e p hp
    cases h
    obtain ⟨i, es', f', h1, h2, h3, h4, h5, h6, h7⟩ := mpC_ok hr hm hk hp
    cases h6
    rename_i n w w' hw
    refine h7 _ ?_
    have hrr : RR T ι i (.map (es.eraseIdx n) clk) (.obj (delO ⟨es'⟩ clk (some (n, w')))) := ⟨es'.eraseIdx n, by simp only [delO]; congr 2; apply Array.toList_inj.1; simp, h5.erase n, h4⟩
    obtain ⟨x1, x2⟩ := hr.put h1 h2 hrr
    exact hK _ x1 x2
  · rename_i r es clk e hp
    cases h
    obtain ⟨i, es', f', h1, h2, h3, h4, h5, h6, h7⟩ := mpC_ok hr hm hk hp
    cases h6
    refine h7 _ ?_
    have hrr : RR T ι i (.map es clk) (.obj (delO ⟨es'⟩ clk none)) := ⟨es', rfl, h5, h4⟩
    obtain ⟨x1, x2⟩ := hr.put h1 h2 hrr
    exact hK _ x1 x2
  · cases h

theorem newObj_fin {T : Nat → Option TInf} {ι : Ren} {τ : VH} {σ : SHeap} (hr : HR T ι τ σ) {r : VRow} {o : Obj} (h : ∀ ι' b, RR T ι' ⟨b, 0, 0⟩ r (.obj o)) {K : Nat → SHeap → Prop}
    (hk : ∀ ι' b σ', Ext ι τ ι' (τ.add r) → ι' τ.next = some ⟨b, 0, 0⟩ → HR T ι' (τ.add r) σ' → K b σ') : newObjW o σ K := by
  intro b hb
  obtain ⟨h1, h2⟩ := hr.new (i := ⟨b, 0, 0⟩) hb (h _ b)
  exact hk _ b _ h1 (Ren.add_same ..) h2

noncomputable def nxC (it : Value) (τ : VH) : Option (Value × VH) :=
  match it with
  | .pointer (some ⟨b, 0, none⟩) => (match τ.rows.get b with
    | some (.iter s pos) => bif Nat.blt pos (lenB s) then fI (Utf8.decode s pos).1 fun n => fN (Nat.add pos (Utf8.decode s pos).2) fun p => some (.tuple ⟨[.bool true, .int .i64 (.ofNat pos), .int .i32 n]⟩, τ.put b (.iter s p))
      else some (.tuple ⟨[.bool false]⟩, τ)
    | _ => none)
  | _ => none

theorem nxC_ok {T : Nat → Option TInf} {ι : Ren} {τ : VH} {σ : SHeap} (hr : HR T ι τ σ) {it it' v : Value} (hi : VR ι it it') {τ' : VH} (h : nxC it τ = some (v, τ')) : Gives2 T ι τ v τ' (nxW it' σ) := by
  unfold nxC at h
  split at h
  · rename_i b
    cases hi
    rename_i i hb
    split at h
    · rename_i s pos hrow
      obtain ⟨r', h1, h2⟩ := hr.rows _ i _ hb hrow
      obtain ⟨rfl, h4⟩ := h2
      intro K hk
      simp only [nxW, asP, h1]
      refine ⟨by rw [h4], ?_⟩
      rw [blt_dec, lenB_eq] at h
      by_cases hp : pos < s.size
      · rw [if_pos hp]
        rw [decide_eq_true hp] at h
        simp only [cond_true, fI_eq, fN_eq] at h
        cases h
        obtain ⟨x1, x2⟩ := hr.put hb hrow (r := .iter s (pos + (Utf8.decode s pos).2)) (r' := .obj (.stringIter s (pos + (Utf8.decode s pos).2))) ⟨rfl, h4⟩
        exact hk _ _ _ x1 (.tuple (.cons (.bool _) (.cons (.int _ _) (.cons (.int _ _) .nil)))) x2
      · rw [if_neg hp]
        rw [decide_eq_false hp] at h
        simp only [cond_false] at h
        cases h
        exact hk _ _ _ (Ext.refl _ _) (.tuple (.cons (.bool _) .nil)) hr
    · cases h
  · cases h

/-! ### All operations -/

noncomputable def unitC (o : Option VH) : Option (Value × VH) := match o with | some τ => some (.tuple ⟨[]⟩, τ) | none => none

noncomputable def usC (T : Nat → Option TInf) (pt : Nat) (p n : Value) (τ : VH) : Option (Value × VH) :=
  match p, n with
  | .pointer p, .int _ (.ofNat n) => bif Nat.beq n 0 then some (.string (mkB []), τ) else bif Nat.ble n 9223372036854775807 then
    (match p, descOf T pt with
    | some ⟨b, o, none⟩, some (.ptr u) => (match descOf T u, τ.rows.get b with
      | some (.int .u8), some (.own e cells len _) => (match T e with
        | some i => (match i.desc with
          | .int .u8 => bif Nat.beq i.size 1 && ((i.lies.any fun p => Nat.beq p.1 0 && Nat.beq p.2 u) && Nat.ble (Nat.add o n) len) then
            (match gat cells n o with
            | some l => (match toBytes l with | some r => fL r fun r => some (.string (mkB r), τ.del b) | none => none)
            | none => none) else none
          | _ => none)
        | none => none)
      | _, _ => none)
    | _, _ => none) else none
  | _, _ => none

theorem usC_ok {T : Nat → Option TInf} {ι : Ren} {τ : VH} {σ : SHeap} (hr : HR T ι τ σ) {pt : Nat} {p n p' n' v : Value} (hp : VR ι p p') (hn : VR ι n n') {τ' : VH} (h : usC T pt p n τ = some (v, τ')) : Gives2 T ι τ v τ' (usW T pt p' n' σ) := by
  unfold usC at h
  split at h
  · rename_i p k n
    cases hn
    cases hz : Nat.beq n 0 with
    | true =>
      rw [hz] at h; cases h
      obtain rfl := Nat.eq_of_beq_eq_true hz
      intro K hk
      have hk' := hk _ _ _ (Ext.refl _ _) (.str (mkB [])) hr
      cases hp <;> exact .inl ⟨rfl, hk'⟩
    | false =>
      rw [hz] at h
      simp only [cond_false] at h
      have hne := Nat.ne_of_beq_eq_false hz
      cases hm : Nat.ble n 9223372036854775807 with
      | false => rw [hm] at h; cases h
      | true =>
        rw [hm] at h
        simp only [cond_true] at h
        have hm' := Nat.le_of_ble_eq_true hm
        split at h
        · rename_i b o u hpt
          cases hp
          rename_i i hi
          split at h
          · rename_i e cells len room hu hb
            split at h
            · rename_i inf hT
              split at h
              · rename_i hd
                cases hc : (Nat.beq inf.size 1 && ((inf.lies.any fun p => Nat.beq p.1 0 && Nat.beq p.2 u) && Nat.ble (Nat.add o n) len)) with
                | false => rw [hc] at h; cases h
                | true =>
                  rw [hc] at h
                  simp only [cond_true] at h
                  simp only [Bool.and_eq_true, List.any_eq_true] at hc
                  obtain ⟨c1, ⟨q, hq, c2, c3⟩, c4⟩ := hc
                  have c4 : o + n ≤ len := Nat.le_of_ble_eq_true c4
                  split at h
                  · rename_i l hg
                    split at h
                    · rename_i r hr2
                      rw [fL_eq] at h; cases h
                      obtain ⟨vs, h1, h2, h3⟩ := ld_of hr hi hb (o := o) (n := n) c4
                      obtain ⟨r', g1, g2⟩ := hr.rows b i _ hi hb
                      obtain ⟨inf2, vs2, k1, rfl, k2, k3⟩ := g2.own_elim
                      obtain ⟨x1, x2⟩ := hr.del hi hb
                      intro K hk
                      refine .inr ⟨by simp only [Int.ofNat_eq_natCast]; omega, by simp only [Int.ofNat_eq_natCast]; omega, ?_⟩
                      refine optW_of rfl (optW_of hpt ?_)
                      refine ⟨hu, optW_of g1 ?_⟩
                      have hmem : (0, u) ∈ inf.lies := by
                        have e1 := Nat.eq_of_beq_eq_true c2
                        have e2 := Nat.eq_of_beq_eq_true c3
                        obtain ⟨q1, q2⟩ := q
                        simp only at e1 e2
                        subst e1 e2
                        exact hq
                      refine optW_of hT ⟨hd, Nat.eq_of_beq_eq_true c1, hmem, ?_⟩
                      refine optW_of h3 (optW_of (toBytes_vr (gat_ok h1 h2 c4 hg) hr2) ?_)
                      exact hk _ _ _ x1 (.str _) x2
                    · cases h
                  · cases h
              · cases h
            · cases h
          · cases h
        · cases h
  · cases h

noncomputable def efV (T : Nat → Option TInf) (op : Op) (vs : List Value) (τ : VH) : Option (Value × VH) :=
  match op with
  | .alloc t => (match T t with | some i => newC T t i.zval τ | none => none)
  | .box t _ => (match vs with | [x] => newC T t x τ | _ => none)
  | .buildSlice t len ps => bslC T t len (ps.toList.map (·.1)) vs τ
  | .store t _ _ => (match vs with | [.pointer (some ⟨b, o, none⟩), x] => unitC (stC T t b o x τ) | _ => none)
  | .makeSlice t _ _ => (match vs with | [l, c] => mkC T t l c τ | _ => none)
  | .makeMap _ none => some (.map (some τ.next), τ.add (.map [] 0))
  | .makeMap t (some _) => (match vs, mapOf T t with | [.int _ _], some _ => some (.map (some τ.next), τ.add (.map [] 0)) | _, _ => none)
  | .lookup t _ _ ok => (match vs with | [m, k] => (match lkC T t m k ok τ with | some v => some (v, τ) | none => none) | _ => none)
  | .mapUpdate t _ _ _ | .insert t _ _ _ => (match vs with | [m, k, v] => unitC (upC T t m k v τ) | _ => none)
  | .range t _ => (match descOf T t, vs with | some .string, [.string s] => some (.pointer (some ⟨τ.next, 0, none⟩), τ.add (.iter s 0)) | _, _ => none)
  | .next _ true => (match vs with | [it] => nxC it τ | _ => none)
  | .call { callee := .builtin b, args := _, argTypes } =>
    (match b with
    | .append => (match vs, argTypes.toList with | [s, x], [t, xt] => apC T t xt s x τ | _, _ => none)
    | .copy => (match vs, argTypes.toList with | [d, s], [t, _] => cpC T t d s τ | _, _ => none)
    | .delete => (match vs, argTypes.toList with | [m, k], t :: _ => unitC (delC T t m k τ) | _, _ => none)
    | .unsafeString => (match vs, argTypes.toList with | [p, n], t :: _ => usC T t p n τ | _, _ => none)
    | _ => (match stV T op vs τ with | some v => some (v, τ) | none => none))
  | _ => (match stV T op vs τ with | some v => some (v, τ) | none => none)

theorem Gives.two {T : Nat → Option TInf} {ι : Ren} {τ : VH} {σ : SHeap} (hr : HR T ι τ σ) {v : Value} {W : (Value → Prop) → Prop} {W2 : (Value → SHeap → Prop) → Prop} (h : Gives ι v W) (hw : ∀ K : Value → SHeap → Prop, W (fun v => K v σ) → W2 K) : Gives2 T ι τ v τ W2 := by
  obtain ⟨v', h1, h2⟩ := h
  exact fun K hk => hw K (h2 _ (hk _ _ _ (Ext.refl _ _) h1 hr))

theorem efV_ok {T : Nat → Option TInf} (hT : TCst T) {ι : Ren} {τ : VH} {σ : SHeap} (hr : HR T ι τ σ) {op : Op} {vs vs' : List Value} {v : Value} {τ' : VH} {e : Env} (hv : VRs ι vs vs') (he : Vals e (opnds op) vs') (h : efV T op vs τ = some (v, τ')) :
    Gives2 T ι τ v τ' (efOp T e op σ) := by
  have st : ∀ {op}, Vals e (opnds op) vs' → (∀ K : Value → SHeap → Prop, stOp T e op σ (fun v => K v σ) → efOp T e op σ K) → (match stV T op vs τ with | some v => some (v, τ) | none => none) = some (v, τ') → Gives2 T ι τ v τ' (efOp T e op σ) := by
    intro op he hef h
    split at h
    · rename_i w hw
      cases h
      exact (stV_ok hT hr hv he hw).two hr hef
    · cases h
  unfold efV at h
  split at h
  · split at h
    · rename_i i hi
      intro K hk
      exact optW_of hi (newC_ok hr (hT.zval hi) h K hk)
    · cases h
  · split at h
    · obtain ⟨x', rfl, h1⟩ := hv.one
      intro K hk
      exact optW_of he.one (newC_ok hr h1 h K hk)
    · cases h
  · intro K hk
    exact partsW_of he (bslC_ok hT hr hv h K hk)
  · split at h
    · obtain ⟨a', x', rfl, h1, h2⟩ := hv.two
      cases h1
      rename_i b o x i hi
      unfold unitC at h
      split at h
      · rename_i τ2 hst
        cases h
        intro K hk
        refine optW_of he.two.1 ?_
        simp only [asP]
        refine optW_of he.two.2 (stC_ok hr hi h2 hst _ fun σ' x1 x2 => hk _ _ _ x1 undef_vr x2)
      · cases h
    · cases h
  · split at h
    · obtain ⟨a', x', rfl, h1, h2⟩ := hv.two
      intro K hk
      exact optW_of he.two.1 (optW_of he.two.2 (mkC_ok hT hr h1 h2 h K hk))
    · cases h
  · cases h
    intro K hk
    refine newObj_fin (r := .map [] 0) (o := .map #[] 0) hr (fun ι' b => ⟨[], rfl, trivial, rfl⟩) fun ι' b σ' x1 x2 x3 => ?_
    have := VR.map x2
    exact hk _ _ _ x1 this x3
  · split at h
    · rename_i k n ke hke
      cases h
      obtain ⟨x', rfl, h1⟩ := hv.one
      cases h1
      intro K hk
      refine optW_of hke (optW_of he.one ?_)
      simp only [asI]
      refine newObj_fin (r := .map [] 0) (o := .map #[] 0) hr (fun ι' b => ⟨[], rfl, trivial, rfl⟩) fun ι' b σ' x1 x2 x3 => ?_
      have := VR.map x2
      exact hk _ _ _ x1 this x3
    · cases h
  · split at h
    · obtain ⟨a', x', rfl, h1, h2⟩ := hv.two
      split at h
      · rename_i w hw
        cases h
        exact (lkC_ok hT hr h1 h2 hw).two hr fun K hK => optW_of he.two.1 (optW_of he.two.2 hK)
      · cases h
    · cases h
  · split at h
    · obtain ⟨a', x', y', rfl, h1, h2, h3⟩ := hv.three
      unfold unitC at h
      split at h
      · rename_i τ2 hst
        cases h
        intro K hk
        exact optW_of he.three.1 (optW_of he.three.2.1 (optW_of he.three.2.2 (upC_ok hr h1 h2 h3 hst _ fun σ' x1 x2 => hk _ _ _ x1 undef_vr x2)))
      · cases h
    · cases h
  · split at h
    · obtain ⟨a', x', y', rfl, h1, h2, h3⟩ := hv.three
      unfold unitC at h
      split at h
      · rename_i τ2 hst
        cases h
        intro K hk
        exact optW_of he.three.1 (optW_of he.three.2.1 (optW_of he.three.2.2 (upC_ok hr h1 h2 h3 hst _ fun σ' x1 x2 => hk _ _ _ x1 undef_vr x2)))
      · cases h
    · cases h
  · split at h
    · rename_i s hd
      cases h
      obtain ⟨x', rfl, h1⟩ := hv.one
      cases h1
      intro K hk
      refine optW_of hd (optW_of he.one ?_)
      simp only [asS]
      refine newObj_fin (r := .iter s 0) (o := .stringIter s 0) hr (fun ι' b => ⟨rfl, rfl⟩) fun ι' b σ' x1 x2 x3 => ?_
      have := VR.ptr (o := 0) x2
      exact hk _ _ _ x1 this x3
    · cases h
  · split at h
    · obtain ⟨x', rfl, h1⟩ := hv.one
      intro K hk
      exact optW_of he.one (nxC_ok hr h1 h K hk)
    · cases h
  · split at h
    · split at h
      · rename_i h5
        obtain ⟨a', x', rfl, h1, h2⟩ := hv.two
        intro K hk
        refine valsW_of he ?_
        simp only [h5]
        exact apC_ok hr h1 h2 h K hk
      · cases h
    · split at h
      · rename_i h5
        obtain ⟨a', x', rfl, h1, h2⟩ := hv.two
        intro K hk
        refine valsW_of he ?_
        simp only [h5]
        exact cpC_ok hr h1 h2 h K hk
      · cases h
    · split at h
      · rename_i h5
        obtain ⟨a', x', rfl, h1, h2⟩ := hv.two
        unfold unitC at h
        split at h
        · rename_i τ2 hst
          cases h
          intro K hk
          refine valsW_of he ?_
          simp only [h5]
          exact delC_ok hr h1 h2 hst _ fun σ' x1 x2 => hk _ _ _ x1 undef_vr x2
        · cases h
      · cases h
    · split at h
      · rename_i h5
        obtain ⟨a', x', rfl, h1, h2⟩ := hv.two
        intro K hk
        refine valsW_of he ?_
        simp only [h5]
        exact usC_ok hr h1 h2 h K hk
      · cases h
    · refine st he (fun K hK => ?_) h
      unfold efOp
      simp only
      rename_i x n1 n2 n3 n4
      cases x <;> first | exact absurd rfl n1 | exact absurd rfl n2 | exact absurd rfl n3 | exact absurd rfl n4 | exact hK
  · refine st he (fun K hK => ?_) h
    rename_i n1 n2 n3 n4 n5 n6 n7 n8 n9 n10 n11 n12 n13
    cases op with
    | alloc => exact absurd rfl (n1 _)
    | box => exact absurd rfl (n2 _ _)
    | buildSlice => exact absurd rfl (n3 _ _ _)
    | store => exact absurd rfl (n4 _ _ _)
    | makeSlice => exact absurd rfl (n5 _ _ _)
    | makeMap t r => cases r with
      | none => exact absurd rfl (n6 _)
      | some => exact absurd rfl (n7 _ _)
    | lookup => exact absurd rfl (n8 _ _ _ _)
    | mapUpdate => exact absurd rfl (n9 _ _ _ _)
    | insert => exact absurd rfl (n10 _ _ _ _)
    | range => exact absurd rfl (n11 _ _)
    | next it s => cases s with
      | true => exact absurd rfl (n12 _)
      | false => exact hK
    | call c =>
      obtain ⟨callee, args, ats⟩ := c
      cases callee with
      | builtin b => exact absurd rfl (n13 _ _ _)
      | value f => exact hK
      | invoke r m => exact hK
    | _ => exact hK

end Go.Sep
