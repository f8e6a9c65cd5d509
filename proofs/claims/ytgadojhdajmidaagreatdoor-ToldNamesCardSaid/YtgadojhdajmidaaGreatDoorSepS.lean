/- Runs of closed calls: tries, and values up to the places of their blocks. -/
import Derived.Test.YtgadojhdajmidaaGreatDoorSepR
set_option linter.unusedSimpArgs false
set_option linter.unusedVariables false
namespace Go.Sep

/-! ### Tries -/

inductive HT (α : Type) where
  | e
  | n (l : HT α) (v : Option α) (r : HT α)

namespace HT
variable {α : Type}

noncomputable def get (t : HT α) : Nat → Option α :=
  HT.rec (motive := fun _ => Nat → Option α) (fun _ => none)
    (fun _ v _ gl gr k => Nat.rec (motive := fun _ => Option α) v (fun _ _ => Bool.rec (motive := fun _ => Option α) (gr (Nat.div k 2)) (gl (Nat.div k 2)) (Nat.beq (Nat.mod k 2) 0)) k) t

noncomputable def sing (o : Option α) (f : Nat) : Nat → HT α :=
  Nat.rec (motive := fun _ => Nat → HT α) (fun _ => .n .e o .e)
    (fun _ s k => Nat.rec (motive := fun _ => HT α) (.n .e o .e) (fun _ _ => Bool.rec (motive := fun _ => HT α) (.n .e none (s (Nat.div k 2))) (.n (s (Nat.div k 2)) none .e) (Nat.beq (Nat.mod k 2) 0)) k) f

noncomputable def upd (o : Option α) (t : HT α) : Nat → HT α :=
  HT.rec (motive := fun _ => Nat → HT α) (fun k => sing o (Nat.succ k) k)
    (fun l v r gl gr k => Nat.rec (motive := fun _ => HT α) (.n l o r) (fun _ _ => Bool.rec (motive := fun _ => HT α) (.n l v (gr (Nat.div k 2))) (.n (gl (Nat.div k 2)) v r) (Nat.beq (Nat.mod k 2) 0)) k) t

theorem get_e (k : Nat) : (HT.e : HT α).get k = none := rfl
theorem get_z (l : HT α) (v : Option α) (r : HT α) : (HT.n l v r).get 0 = v := rfl
theorem get_s (l : HT α) (v : Option α) (r : HT α) (k : Nat) : (HT.n l v r).get (k + 1) = if (k + 1) % 2 = 0 then l.get ((k + 1) / 2) else r.get ((k + 1) / 2) := by
  show Bool.rec (motive := fun _ => Option α) (r.get ((k + 1) / 2)) (l.get ((k + 1) / 2)) (Nat.beq ((k + 1) % 2) 0) = _
  by_cases h : (k + 1) % 2 = 0
  · rw [if_pos h, h]; rfl
  · rw [if_neg h]
    have : Nat.beq ((k + 1) % 2) 0 = false := by
      cases hb : Nat.beq ((k + 1) % 2) 0 with
      | false => rfl
      | true => exact absurd (Nat.eq_of_beq_eq_true hb) h
    rw [this]

theorem sing_z (o : Option α) (f : Nat) : sing o f 0 = .n .e o .e := by cases f <;> rfl
theorem sing_s (o : Option α) (f k : Nat) : sing o (f + 1) (k + 1) = if (k + 1) % 2 = 0 then .n (sing o f ((k + 1) / 2)) none .e else .n .e none (sing o f ((k + 1) / 2)) := by
  show Bool.rec (motive := fun _ => HT α) (.n .e none (sing o f ((k + 1) / 2))) (.n (sing o f ((k + 1) / 2)) none .e) (Nat.beq ((k + 1) % 2) 0) = _
  by_cases h : (k + 1) % 2 = 0
  · rw [if_pos h, h]; rfl
  · rw [if_neg h]
    have : Nat.beq ((k + 1) % 2) 0 = false := by
      cases hb : Nat.beq ((k + 1) % 2) 0 with
      | false => rfl
      | true => exact absurd (Nat.eq_of_beq_eq_true hb) h
    rw [this]

theorem upd_z (o : Option α) (l : HT α) (v : Option α) (r : HT α) : upd o (.n l v r) 0 = .n l o r := rfl
theorem upd_s (o : Option α) (l : HT α) (v : Option α) (r : HT α) (k : Nat) : upd o (.n l v r) (k + 1) = if (k + 1) % 2 = 0 then .n (upd o l ((k + 1) / 2)) v r else .n l v (upd o r ((k + 1) / 2)) := by
  show Bool.rec (motive := fun _ => HT α) (.n l v (upd o r ((k + 1) / 2))) (.n (upd o l ((k + 1) / 2)) v r) (Nat.beq ((k + 1) % 2) 0) = _
  by_cases h : (k + 1) % 2 = 0
  · rw [if_pos h, h]; rfl
  · rw [if_neg h]
    have : Nat.beq ((k + 1) % 2) 0 = false := by
      cases hb : Nat.beq ((k + 1) % 2) 0 with
      | false => rfl
      | true => exact absurd (Nat.eq_of_beq_eq_true hb) h
    rw [this]

theorem sing_get (o : Option α) : ∀ (f k c : Nat), k ≤ f → (sing o f k).get c = if c = k then o else none := by
  intro f
  induction f with
  | zero =>
    intro k c h
    obtain rfl : k = 0 := by omega
    cases c with
    | zero => rw [sing_z, get_z, if_pos rfl]
    | succ c => rw [sing_z, get_s, if_neg (show ¬ c + 1 = 0 by omega)]; split <;> rfl
  | succ f ih =>
    intro k c h
    cases k with
    | zero =>
      cases c with
      | zero => rw [sing_z, get_z, if_pos rfl]
      | succ c => rw [sing_z, get_s, if_neg (show ¬ c + 1 = 0 by omega)]; split <;> rfl
    | succ k =>
      rw [sing_s]
      cases c with
      | zero => rw [if_neg (show ¬ 0 = k + 1 by omega)]; split <;> rw [get_z]
      | succ c =>
        have hf : (k + 1) / 2 ≤ f := by omega
        by_cases hk : (k + 1) % 2 = 0
        · rw [if_pos hk, get_s]
          by_cases hc : (c + 1) % 2 = 0
          · rw [if_pos hc, ih _ _ hf]
            by_cases hq : c + 1 = k + 1
            · rw [if_pos hq, if_pos (by rw [hq])]
            · rw [if_neg hq, if_neg (by omega)]
          · rw [if_neg hc, if_neg (show ¬ c + 1 = k + 1 by omega)]; rfl
        · rw [if_neg hk, get_s]
          by_cases hc : (c + 1) % 2 = 0
          · rw [if_pos hc, if_neg (show ¬ c + 1 = k + 1 by omega)]; rfl
          · rw [if_neg hc, ih _ _ hf]
            by_cases hq : c + 1 = k + 1
            · rw [if_pos hq, if_pos (by rw [hq])]
            · rw [if_neg hq, if_neg (by omega)]

theorem upd_get (o : Option α) : ∀ (t : HT α) (k c : Nat), (t.upd o k).get c = if c = k then o else t.get c := by
  intro t
  induction t with
  | e =>
    intro k c
    show (sing o (k + 1) k).get c = _
    rw [sing_get o _ _ _ (by omega)]; rfl
  | n l v r ihl ihr =>
    intro k c
    cases k with
    | zero =>
      rw [upd_z]
      cases c with
      | zero => rw [get_z, if_pos rfl]
      | succ c => rw [if_neg (show ¬ c + 1 = 0 by omega), get_s, get_s]
    | succ k =>
      rw [upd_s]
      cases c with
      | zero => rw [if_neg (show ¬ 0 = k + 1 by omega)]; split <;> rfl
      | succ c =>
        by_cases hk : (k + 1) % 2 = 0
        · rw [if_pos hk, get_s, get_s]
          by_cases hc : (c + 1) % 2 = 0
          · rw [if_pos hc, if_pos hc, ihl]
            by_cases hq : c + 1 = k + 1
            · rw [if_pos hq, if_pos (by rw [hq])]
            · rw [if_neg hq, if_neg (by omega)]
          · rw [if_neg hc, if_neg hc, if_neg (show ¬ c + 1 = k + 1 by omega)]
        · rw [if_neg hk, get_s, get_s]
          by_cases hc : (c + 1) % 2 = 0
          · rw [if_pos hc, if_pos hc, if_neg (show ¬ c + 1 = k + 1 by omega)]
          · rw [if_neg hc, if_neg hc, ihr]
            by_cases hq : c + 1 = k + 1
            · rw [if_pos hq, if_pos (by rw [hq])]
            · rw [if_neg hq, if_neg (by omega)]

theorem upd_same (o : Option α) (t : HT α) (k : Nat) : (t.upd o k).get k = o := by rw [upd_get, if_pos rfl]
theorem upd_ne (o : Option α) (t : HT α) {k c : Nat} (h : c ≠ k) : (t.upd o k).get c = t.get c := by rw [upd_get, if_neg h]
/-! The same, worked out at once. -/

noncomputable def singK {β : Type} (o : Option α) (f : Nat) : Nat → (HT α → β) → β :=
  Nat.rec (motive := fun _ => Nat → (HT α → β) → β) (fun _ K => K (.n .e o .e))
    (fun _ s k K => Nat.rec (motive := fun _ => β) (K (.n .e o .e)) (fun _ _ => Bool.rec (motive := fun _ => β) (s (Nat.div k 2) fun x => K (.n .e none x)) (s (Nat.div k 2) fun x => K (.n x none .e)) (Nat.beq (Nat.mod k 2) 0)) k) f

noncomputable def updK {β : Type} (o : Option α) (t : HT α) : Nat → (HT α → β) → β :=
  HT.rec (motive := fun _ => Nat → (HT α → β) → β) (fun k K => singK o (Nat.succ k) k K)
    (fun l v r gl gr k K => Nat.rec (motive := fun _ => β) (K (.n l o r)) (fun _ _ => Bool.rec (motive := fun _ => β) (gr (Nat.div k 2) fun x => K (.n l v x)) (gl (Nat.div k 2) fun x => K (.n x v r)) (Nat.beq (Nat.mod k 2) 0)) k) t

theorem singK_eq {β : Type} (o : Option α) : ∀ (f k : Nat) (K : HT α → β), singK o f k K = K (sing o f k) := by
  intro f
  induction f with
  | zero => intro k K; rfl
  | succ f ih =>
    intro k K
    cases k with
    | zero => rfl
    | succ k =>
      show (Bool.rec (motive := fun _ => β) (singK o f (Nat.div (k + 1) 2) fun x => K (.n .e none x)) (singK o f (Nat.div (k + 1) 2) fun x => K (.n x none .e)) (Nat.beq (Nat.mod (k + 1) 2) 0) : β) =
        K (Bool.rec (motive := fun _ => HT α) (.n .e none (sing o f (Nat.div (k + 1) 2))) (.n (sing o f (Nat.div (k + 1) 2)) none .e) (Nat.beq (Nat.mod (k + 1) 2) 0))
      cases Nat.beq (Nat.mod (k + 1) 2) 0 <;> exact ih _ _

theorem updK_eq {β : Type} (o : Option α) : ∀ (t : HT α) (k : Nat) (K : HT α → β), updK o t k K = K (upd o t k) := by
  intro t
  induction t with
  | e => intro k K; exact singK_eq o (Nat.succ k) k K
  | n l v r ihl ihr =>
    intro k K
    cases k with
    | zero => rfl
    | succ k =>
      show (Bool.rec (motive := fun _ => β) (updK o r (Nat.div (k + 1) 2) fun x => K (.n l v x)) (updK o l (Nat.div (k + 1) 2) fun x => K (.n x v r)) (Nat.beq (Nat.mod (k + 1) 2) 0) : β) =
        K (Bool.rec (motive := fun _ => HT α) (.n l v (upd o r (Nat.div (k + 1) 2))) (.n (upd o l (Nat.div (k + 1) 2)) v r) (Nat.beq (Nat.mod (k + 1) 2) 0))
      cases Nat.beq (Nat.mod (k + 1) 2) 0
      · exact ihr _ _
      · exact ihl _ _
end HT

/-! ### Values up to the places of blocks -/

/-- Where a block stands: its number, by how much its places are shifted, and how much more room it has, in elements. -/
structure RI where
  blk : Nat
  sh : Nat
  ex : Nat

abbrev Ren := Nat → Option RI

/-- A capacity of a closed run: twice what is sure, and one where more may be there. -/
def capA (c ex : Nat) : Nat := c / 2 + c % 2 * ex

mutual
inductive VR (ι : Ren) : Value → Value → Prop
  | bool (b : Bool) : VR ι (.bool b) (.bool b)
  | int (k : IntKind) (n : Int) : VR ι (.int k n) (.int k n)
  | str (s : ByteArray) : VR ι (.string s) (.string s)
  | nilPtr : VR ι (.pointer none) (.pointer none)
  | nilMap : VR ι (.map none) (.map none)
  | nilFunc : VR ι .nilFunc .nilFunc
  | nilIface : VR ι .nilIface .nilIface
  | nilSlice : VR ι (.slice none 0 0) (.slice none 0 0)
  | ptr {b o : Nat} {i : RI} (h : ι b = some i) : VR ι (.pointer (some ⟨b, o, none⟩)) (.pointer (some ⟨i.blk, o + i.sh, none⟩))
  | slice {b o l c : Nat} {i : RI} (h : ι b = some i) : VR ι (.slice (some ⟨b, o, none⟩) l c) (.slice (some ⟨i.blk, o + i.sh, none⟩) l (capA c i.ex))
  | empS {a : Addr} {c : Nat} : VR ι (.slice (some ⟨0, 0, some 0⟩) 0 0) (.slice (some a) 0 c)
  | map {b : Nat} {i : RI} (h : ι b = some i) : VR ι (.map (some b)) (.map (some i.blk))
  | func {f : FuncId} {x y x' y' : List Value} (hx : VRs ι x x') (hy : VRs ι y y') : VR ι (.func (.func f) ⟨x⟩ ⟨y⟩) (.func (.func f) ⟨x'⟩ ⟨y'⟩)
  | yld {l : Nat} {i : RI} (h : ι l = some i) : VR ι (.func (.yield l) ⟨[]⟩ ⟨[]⟩) (.func (.yield i.blk) ⟨[]⟩ ⟨[]⟩)
  | iface {t : TypeId} {v v' : Value} (h : VR ι v v') : VR ι (.iface t v) (.iface t v')
  | agg {x x' : List Value} (h : VRs ι x x') : VR ι (.agg ⟨x⟩) (.agg ⟨x'⟩)
  | tuple {x x' : List Value} (h : VRs ι x x') : VR ι (.tuple ⟨x⟩) (.tuple ⟨x'⟩)
inductive VRs (ι : Ren) : List Value → List Value → Prop
  | nil : VRs ι [] []
  | cons {v v' : Value} {x x' : List Value} (h : VR ι v v') (t : VRs ι x x') : VRs ι (v :: x) (v' :: x')
end

def RLe (ι ι' : Ren) : Prop := ∀ b i, ι b = some i → ι' b = some i

mutual
theorem VR.mono {ι ι' : Ren} (hi : RLe ι ι') : ∀ {v v' : Value}, VR ι v v' → VR ι' v v'
  | _, _, .bool b => .bool b
  | _, _, .int k n => .int k n
  | _, _, .str s => .str s
  | _, _, .nilPtr => .nilPtr
  | _, _, .nilMap => .nilMap
  | _, _, .nilFunc => .nilFunc
  | _, _, .nilIface => .nilIface
  | _, _, .nilSlice => .nilSlice
  | _, _, .empS => .empS
  | _, _, .ptr h => .ptr (hi _ _ h)
  | _, _, .slice h => .slice (hi _ _ h)
  | _, _, .map h => .map (hi _ _ h)
  | _, _, .func hx hy => .func (hx.mono hi) (hy.mono hi)
  | _, _, .yld h => .yld (hi _ _ h)
  | _, _, .iface h => .iface (h.mono hi)
  | _, _, .agg h => .agg (h.mono hi)
  | _, _, .tuple h => .tuple (h.mono hi)
theorem VRs.mono {ι ι' : Ren} (hi : RLe ι ι') : ∀ {v v' : List Value}, VRs ι v v' → VRs ι' v v'
  | _, _, .nil => .nil
  | _, _, .cons h t => .cons (h.mono hi) (t.mono hi)
end

theorem RLe.refl (ι : Ren) : RLe ι ι := fun _ _ h => h
theorem RLe.trans {ι ι1 ι2 : Ren} (h : RLe ι ι1) (h' : RLe ι1 ι2) : RLe ι ι2 := fun b i hb => h' b i (h b i hb)

theorem VRs.length {ι : Ren} : ∀ {x x' : List Value}, VRs ι x x' → x'.length = x.length
  | _, _, .nil => rfl
  | _, _, .cons _ t => by simp [t.length]

theorem VRs.append {ι : Ren} : ∀ {x x' y y' : List Value}, VRs ι x x' → VRs ι y y' → VRs ι (x ++ y) (x' ++ y')
  | _, _, _, _, .nil, h => h
  | _, _, _, _, .cons a t, h => .cons a (t.append h)

theorem VRs.take {ι : Ren} : ∀ {x x' : List Value} (n : Nat), VRs ι x x' → VRs ι (x.take n) (x'.take n)
  | _, _, 0, _ => by simp; exact .nil
  | _, _, n + 1, .nil => .nil
  | _, _, n + 1, .cons a t => .cons a (t.take n)

theorem VRs.drop {ι : Ren} : ∀ {x x' : List Value} (n : Nat), VRs ι x x' → VRs ι (x.drop n) (x'.drop n)
  | _, _, 0, h => h
  | _, _, n + 1, .nil => .nil
  | _, _, n + 1, .cons a t => t.drop n

theorem VRs.get {ι : Ren} : ∀ {x x' : List Value} {n : Nat} {v : Value}, VRs ι x x' → x[n]? = some v → ∃ v', x'[n]? = some v' ∧ VR ι v v'
  | _, _, n, _, .nil, h => by simp at h
  | _, _, 0, _, .cons a t, h => by simp at h; subst h; exact ⟨_, rfl, a⟩
  | _, _, n + 1, _, .cons a t, h => by simp at h ⊢; exact t.get h

theorem VRs.flat {ι : Ren} : ∀ {x x' : List (List Value)}, x.length = x'.length → (∀ (n : Nat) (a b : List Value), x[n]? = some a → x'[n]? = some b → VRs ι a b) → VRs ι x.flatten x'.flatten
  | [], [], _, _ => .nil
  | a :: x, b :: x', hl, h => by
    simp only [List.flatten_cons]
    exact (h 0 a b rfl rfl).append (VRs.flat (by simpa using hl) fun n a b h1 h2 => h (n + 1) a b h1 h2)
  | [], _ :: _, hl, _ => by simp at hl
  | _ :: _, [], hl, _ => by simp at hl

/-- A value without places. -/
def cst : Value → Bool
  | .bool _ | .int .. | .string _ | .pointer none | .map none | .nilFunc | .nilIface => true
  | .slice none 0 0 => true
  | .tuple ⟨[]⟩ => true
  | _ => false

theorem cst_ok {ι : Ren} : ∀ {v : Value}, cst v = true → VR ι v v
  | .bool _, _ => .bool _
  | .int .., _ => .int ..
  | .string _, _ => .str _
  | .pointer none, _ => .nilPtr
  | .map none, _ => .nilMap
  | .nilFunc, _ => .nilFunc
  | .nilIface, _ => .nilIface
  | .slice none 0 0, _ => .nilSlice
  | .tuple ⟨[]⟩, _ => .tuple .nil

theorem csts_ok {ι : Ren} : ∀ {l : List Value}, l.all cst = true → VRs ι l l
  | [], _ => .nil
  | v :: l, h => by
    simp only [List.all_cons, Bool.and_eq_true] at h
    exact .cons (cst_ok h.1) (csts_ok h.2)

theorem undef_vr {ι : Ren} : VR ι undef undef := .tuple .nil

theorem VR.scal {ι : Ren} {v v' : Value} (h : VR ι v v') : scal v' = scal v := by cases h <;> rfl

theorem VRs.scal {ι : Ren} : ∀ {x x' : List Value}, VRs ι x x' → x'.all scal = x.all scal
  | _, _, .nil => rfl
  | _, _, .cons a t => by simp only [List.all_cons, a.scal, t.scal]

/-- The cells of a value. -/
theorem VR.cells {ι : Ren} {v v' : Value} (h : VR ι v v') : VRs ι v.cells.toList v'.cells.toList := by
  cases h with
  | agg h => exact h
  | bool b => exact .cons (.bool b) .nil
  | int k n => exact .cons (.int k n) .nil
  | str s => exact .cons (.str s) .nil
  | nilPtr => exact .cons .nilPtr .nil
  | nilMap => exact .cons .nilMap .nil
  | nilFunc => exact .cons .nilFunc .nil
  | nilIface => exact .cons .nilIface .nil
  | nilSlice => exact .cons .nilSlice .nil
  | empS => exact .cons .empS .nil
  | ptr h => exact .cons (.ptr h) .nil
  | slice h => exact .cons (.slice h) .nil
  | map h => exact .cons (.map h) .nil
  | func hx hy => exact .cons (.func hx hy) .nil
  | yld h => exact .cons (.yld h) .nil
  | iface h => exact .cons (.iface h) .nil
  | tuple h => exact .cons (.tuple h) .nil

end Go.Sep
