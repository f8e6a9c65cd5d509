/- Runs of closed calls: all operations that change nothing. -/
import Derived.Test.YtgadojhdajmidaaGreatDoorSepX
set_option linter.unusedSimpArgs false
set_option linter.unusedVariables false
namespace Go.Sep

def optL : Option Operand → List Operand
  | none => []
  | some x => [x]

def opnds : Op → List Operand
  | .move x | .assign x | .nilCheck x | .unOp _ _ x | .convert _ _ x | .makeInterface _ x | .fieldAddr _ x _ | .field _ x _ | .extract x _ | .typeAssert x .. | .load _ x | .box _ x | .range _ x | .next x _ | .panic x => [x]
  | .pick c a b => [c, a, b]
  | .binOp _ _ x y _ | .indexAddr _ x y | .index _ x y | .store _ x y | .makeSlice _ x y | .lookup _ x y _ => [x, y]
  | .makeFunc _ first caps => first.toList ++ caps.toList
  | .slice _ x lo hi mx => x :: (optL lo ++ (optL hi ++ optL mx))
  | .build _ ps | .buildSlice _ _ ps => ps.toList.map (·.2)
  | .makeMap _ r => optL r
  | .mapUpdate _ m k v | .insert _ m k v => [m, k, v]
  | .call { callee := .builtin _, args, .. } => args.toList
  | .call { callee := .value f, args, .. } => f :: args.toList
  | _ => []

def takeO (o : Option Operand) (vs : List Value) : Option Value × List Value :=
  match o, vs with
  | none, vs => (none, vs)
  | some _, v :: r => (some v, r)
  | some _, [] => (none, [])

noncomputable def stV (T : Nat → Option TInf) (op : Op) (vs : List Value) (τ : VH) : Option Value :=
  match op with
  | .move _ | .assign _ => (match vs with | [v] => some v | _ => none)
  | .load t _ => (match vs with | [.pointer (some ⟨b, o, none⟩)] => ldC T t b o τ | _ => none)
  | .nilCheck _ => (match vs with | [.pointer (some a)] => some (.pointer (some a)) | [.func (.func f) x y] => some (.func (.func f) x y) | _ => none)
  | .binOp op t _ _ _ => (match vs with | [x, y] => binS T op t x y | _ => none)
  | .unOp op _ _ => (match vs with | [x] => unC op x | _ => none)
  | .convert s t _ => (match vs with | [x] => cvC T s t x τ | _ => none)
  | .makeInterface t _ => (match vs with | [x] => (match descOf T t with | some d => (match d with | .iface _ => none | _ => some (.iface t x)) | none => none) | _ => none)
  | .makeFunc (.func f) first _ => some (.func (.func f) ⟨vs.take first.size⟩ ⟨vs.drop first.size⟩)
  | .slice t _ lo hi mx => (match vs with | x :: r => slcC T t x (takeO lo r).1 (takeO hi (takeO lo r).2).1 (takeO mx (takeO hi (takeO lo r).2).2).1 | _ => none)
  | .fieldAddr s _ f => (match vs with | [x] => fadC T s x f | _ => none)
  | .field s _ f => (match vs with | [x] => fldC T s x f | _ => none)
  | .indexAddr t _ _ => (match vs with | [x, i] => iadC T t x i | _ => none)
  | .index t _ _ => (match vs with | [x, i] => idxC T t x i | _ => none)
  | .extract _ i => (match vs with | [.tuple ⟨l⟩] => l[i]? | _ => none)
  | .build t ps => bldC T t (ps.toList.map (·.1)) vs
  | .typeAssert _ _ t true => (match vs with | [x] => tasC T x t | _ => none)
  | .call { callee := .builtin b, args := _, argTypes } =>
    (match b with
    | .len => (match vs, argTypes.toList with | [v], [t] => lenC T t v τ | _, _ => none)
    | .max => minmaxC true vs
    | .min => minmaxC false vs
    | .unsafeSliceData => (match vs with | [.slice none _ _] => some (.pointer none) | [.slice (some ⟨b, o, none⟩) _ c] => bif Nat.beq (Nat.div c 2) 0 then none else some (.pointer (some ⟨b, o, none⟩)) | _ => none)
    | _ => none)
  | _ => none

theorem takeO_ok {ι : Ren} {e : Env} {o : Option Operand} {l : List Operand} {r r' : List Value} (h : Vals e (optL o ++ l) r') (hr : VRs ι r r') :
    ∃ o' r2, OR ι (takeO o r).1 o' ∧ VRs ι (takeO o r).2 r2 ∧ Vals e l r2 ∧ ∀ K, K o' → optV e o K := by
  cases o with
  | none => exact ⟨none, r', .none, hr, h, fun K hk => hk⟩
  | some x =>
    obtain ⟨v, ws, rfl, h1, h2⟩ := Vals.cons (x := x) (l := l) h
    cases hr with
    | cons a t => exact ⟨some v, ws, .some a, t, h2, fun K hk => optW_of h1 hk⟩

theorem VRs.one {ι : Ren} {v : Value} {l : List Value} (h : VRs ι [v] l) : ∃ v', l = [v'] ∧ VR ι v v' := by
  cases h with
  | cons a t => cases t; exact ⟨_, rfl, a⟩

theorem VRs.two {ι : Ren} {v w : Value} {l : List Value} (h : VRs ι [v, w] l) : ∃ v' w', l = [v', w'] ∧ VR ι v v' ∧ VR ι w w' := by
  cases h with
  | cons a t => cases t with
    | cons b t => cases t; exact ⟨_, _, rfl, a, b⟩

theorem VRs.three {ι : Ren} {u v w : Value} {l : List Value} (h : VRs ι [u, v, w] l) : ∃ u' v' w', l = [u', v', w'] ∧ VR ι u u' ∧ VR ι v v' ∧ VR ι w w' := by
  cases h with
  | cons a t => cases t with
    | cons b t => cases t with
      | cons c t => cases t; exact ⟨_, _, _, rfl, a, b, c⟩

theorem Vals.one {e : Env} {x : Operand} {v : Value} (h : Vals e [x] [v]) : e.val x = some v := by simpa [Vals] using h
theorem Vals.two {e : Env} {x y : Operand} {v w : Value} (h : Vals e [x, y] [v, w]) : e.val x = some v ∧ e.val y = some w := by simpa [Vals] using h
theorem Vals.three {e : Env} {x y z : Operand} {u v w : Value} (h : Vals e [x, y, z] [u, v, w]) : e.val x = some u ∧ e.val y = some v ∧ e.val z = some w := by simpa [Vals] using h

theorem stV_ok {T : Nat → Option TInf} (hT : TCst T) {ι : Ren} {τ : VH} {σ : SHeap} (hr : HR T ι τ σ) {op : Op} {vs vs' : List Value} {v : Value} {e : Env} (hv : VRs ι vs vs') (he : Vals e (opnds op) vs') (h : stV T op vs τ = some v) :
    Gives ι v (stOp T e op σ) := by
  unfold stV at h
  split at h
  · split at h
    · cases h; obtain ⟨v', rfl, h1⟩ := hv.one
      exact ⟨v', h1, fun K hk => optW_of he.one hk⟩
    · cases h
  · split at h
    · cases h; obtain ⟨v', rfl, h1⟩ := hv.one
      exact ⟨v', h1, fun K hk => optW_of he.one hk⟩
    · cases h
  · split at h
    · obtain ⟨v', rfl, h1⟩ := hv.one
      cases h1
      rename_i i hi
      obtain ⟨v', h2, h3⟩ := ldC_ok hr hi h
      exact ⟨v', h2, fun K hk => optW_of he.one (h3 K hk)⟩
    · cases h
  · split at h
    · cases h; obtain ⟨v', rfl, h1⟩ := hv.one
      cases h1
      rename_i i hi
      exact ⟨_, .ptr hi, fun K hk => optW_of he.one hk⟩
    · cases h; obtain ⟨v', rfl, h1⟩ := hv.one
      cases h1
      rename_i hx hy
      exact ⟨_, .func hx hy, fun K hk => optW_of he.one hk⟩
    · cases h
  · split at h
    · obtain ⟨x', y', rfl, h1, h2⟩ := hv.two
      obtain ⟨v', h3, h4⟩ := binS_ok h1 h2 h
      exact ⟨v', h3, fun K hk => optW_of he.two.1 (optW_of he.two.2 (h4 K hk))⟩
    · cases h
  · split at h
    · obtain ⟨x', rfl, h1⟩ := hv.one
      obtain ⟨v', h3, h4⟩ := unC_ok h1 h
      exact ⟨v', h3, fun K hk => optW_of he.one (h4 K hk)⟩
    · cases h
  · split at h
    · obtain ⟨x', rfl, h1⟩ := hv.one
      obtain ⟨v', h3, h4⟩ := cvC_ok hr h1 h
      exact ⟨v', h3, fun K hk => optW_of he.one (h4 K hk)⟩
    · cases h
  · split at h
    · obtain ⟨x', rfl, h1⟩ := hv.one
      split at h
      · rename_i d hd
        split at h
        · cases h
        · rename_i hn
          cases h
          refine ⟨_, .iface h1, fun K hk => optW_of he.one (optW_of hd ?_)⟩
          split
          · exact absurd rfl (hn _)
          · exact hk
      · cases h
    · cases h
  · rename_i f first caps
    cases h
    obtain ⟨a, b, rfl, h1, h2⟩ := Vals.append he
    have hl : a.length = first.size := by rw [h1.len]; simp
    have e1 : (a ++ b).take first.size = a := by rw [← hl]; simp
    have e2 : (a ++ b).drop first.size = b := by rw [← hl]; simp
    have h3 := hv.take first.size
    have h4 := hv.drop first.size
    rw [e1] at h3; rw [e2] at h4
    refine ⟨_, .func h3 h4, fun K hk => valsW_of h1 (valsW_of h2 ?_)⟩
    exact hk
  · rename_i t x lo hi mx
    split at h
    · rename_i xv r
      cases hv with
      | cons a t =>
        obtain ⟨w, ws, h0, h1, h2⟩ := Vals.cons (x := x) (l := optL lo ++ (optL hi ++ optL mx)) he
        cases h0
        obtain ⟨lo', r1, g1, g2, g3, g4⟩ := takeO_ok h2 t
        obtain ⟨hi', r2, k1, k2, k3, k4⟩ := takeO_ok g3 g2
        obtain ⟨mx', r3, m1, m2, m3, m4⟩ := takeO_ok (l := []) (by simpa using k3) k2
        obtain ⟨v', h5, h6⟩ := slcC_ok a g1 k1 m1 h
        refine ⟨v', h5, fun K hk => optW_of h1 ?_⟩
        refine g4 _ ?_
        refine k4 _ ?_
        refine m4 _ ?_
        exact h6 K hk
    · cases h
  · split at h
    · obtain ⟨x', rfl, h1⟩ := hv.one
      obtain ⟨v', h3, h4⟩ := fadC_ok h1 h
      exact ⟨v', h3, fun K hk => optW_of he.one (h4 K hk)⟩
    · cases h
  · split at h
    · obtain ⟨x', rfl, h1⟩ := hv.one
      obtain ⟨v', h3, h4⟩ := fldC_ok h1 h
      exact ⟨v', h3, fun K hk => optW_of he.one (h4 K hk)⟩
    · cases h
  · split at h
    · obtain ⟨x', y', rfl, h1, h2⟩ := hv.two
      obtain ⟨v', h3, h4⟩ := iadC_ok h1 h2 h
      exact ⟨v', h3, fun K hk => optW_of he.two.1 (optW_of he.two.2 (h4 K hk))⟩
    · cases h
  · split at h
    · obtain ⟨x', y', rfl, h1, h2⟩ := hv.two
      obtain ⟨v', h3, h4⟩ := idxC_ok h1 h2 h
      exact ⟨v', h3, fun K hk => optW_of he.two.1 (optW_of he.two.2 (h4 K hk))⟩
    · cases h
  · split at h
    · obtain ⟨x', rfl, h1⟩ := hv.one
      cases h1
      rename_i l l' hl
      obtain ⟨v', h3, h4⟩ := hl.get h
      exact ⟨v', h4, fun K hk => optW_of he.one (optW_of (by simpa using h3) hk)⟩
    · cases h
  · rename_i t ps
    obtain ⟨v', h3, h4⟩ := bldC_ok hT hv h
    exact ⟨v', h3, fun K hk => partsW_of he (h4 K hk)⟩
  · split at h
    · obtain ⟨x', rfl, h1⟩ := hv.one
      obtain ⟨v', h3, h4⟩ := tasC_ok hT h1 h
      exact ⟨v', h3, fun K hk => optW_of he.one (h4 K hk)⟩
    · cases h
  · split at h
    · split at h
      · rename_i h5
        obtain ⟨x', rfl, h1⟩ := hv.one
        obtain ⟨v', h3, h4⟩ := lenC_ok hr h1 h
        refine ⟨v', h3, fun K hk => valsW_of he ?_⟩
        simp only [h5]
        exact h4 K hk
      · cases h
    · obtain ⟨v', h3, h4⟩ := minmaxC_ok hv h
      exact ⟨v', h3, fun K hk => valsW_of he (h4 K hk)⟩
    · obtain ⟨v', h3, h4⟩ := minmaxC_ok hv h
      exact ⟨v', h3, fun K hk => valsW_of he (h4 K hk)⟩
    · split at h
      · cases h
        obtain ⟨x', rfl, h1⟩ := hv.one
        cases h1
        exact ⟨_, .nilPtr, fun K hk => valsW_of he hk⟩
      · rename_i b o l c
        obtain ⟨x', rfl, h1⟩ := hv.one
        cases h1
        rename_i i hi
        cases hc : Nat.beq (Nat.div c 2) 0 with
        | true => rw [hc] at h; cases h
        | false =>
          rw [hc] at h; cases h
          have hne := Nat.ne_of_beq_eq_false hc
          have hd : Nat.div c 2 = c / 2 := rfl
          exact ⟨_, .ptr hi, fun K hk => valsW_of he ⟨by unfold capA; omega, hk⟩⟩
      · cases h
    · cases h
  · cases h

end Go.Sep
