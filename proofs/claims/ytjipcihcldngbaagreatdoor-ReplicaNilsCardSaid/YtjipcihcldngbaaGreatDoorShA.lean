/- Shadow evaluation, 1: tries; shadow values and heaps; what relates them to a world. -/
import Derived.AtR
import Derived.Below
import Derived.Orders
import Derived.Room.Entries
import Derived.Room.AppendUpon
import Derived.Deep.AppendSrc
import Derived.Laws.IdiomStrings
import Derived.Lib.AppendZerosOnto
namespace Go.Sh

/-! ### Tries -/
inductive Tr (α : Type) where
  | lf
  | nd (l : Tr α) (v : Option α) (r : Tr α)

def Tr.get {α : Type} : Tr α → Nat → Option α
  | .lf, _ => none
  | .nd l v r, n => bif Nat.beq n 0 then v else bif Nat.beq (n % 2) 1 then l.get (n / 2) else r.get (n / 2 - 1)

def Tr.setF {α : Type} : Nat → Tr α → Nat → Option α → Tr α
  | 0, t, _, _ => t
  | f + 1, .lf, n, x => bif Nat.beq n 0 then .nd .lf x .lf else bif Nat.beq (n % 2) 1 then .nd (Tr.setF f .lf (n / 2) x) none .lf else .nd .lf none (Tr.setF f .lf (n / 2 - 1) x)
  | f + 1, .nd l v r, n, x => bif Nat.beq n 0 then .nd l x r else bif Nat.beq (n % 2) 1 then .nd (Tr.setF f l (n / 2) x) v r else .nd l v (Tr.setF f r (n / 2 - 1) x)

def Tr.put {α : Type} (t : Tr α) (n : Nat) (x : Option α) : Tr α := Tr.setF (n + 1) t n x

theorem Tr.get_setF {α : Type} : ∀ (f : Nat) (t : Tr α) (n m : Nat) (x : Option α), n < f → (Tr.setF f t n x).get m = if n = m then x else t.get m := by
  intro f
  induction f with
  | zero => intro t n m x h; omega
  | succ f ih =>
    intro t n m x h
    have key : ∀ (l : Tr α) (v : Option α) (r : Tr α), (∀ k, Tr.get t k = Tr.get (.nd l v r) k) →
        Tr.setF (f + 1) t n x = (bif Nat.beq n 0 then .nd l x r else bif Nat.beq (n % 2) 1 then .nd (Tr.setF f l (n / 2) x) v r else .nd l v (Tr.setF f r (n / 2 - 1) x)) →
        (Tr.setF (f + 1) t n x).get m = if n = m then x else t.get m := by
      intro l v r hg hs
      rw [hs, hg]
      by_cases h0 : n = 0
      · subst h0
        simp only [Nat.beq_refl, cond_true]
        by_cases hm : m = 0
        · subst hm; simp [Tr.get]
        · have : Nat.beq m 0 = false := by cases m <;> simp_all [Nat.beq]
          simp [Tr.get, this, Ne.symm hm]
      · have hn0 : Nat.beq n 0 = false := by cases n <;> simp_all [Nat.beq]
        simp only [hn0, cond_false]
        by_cases h1 : n % 2 = 1
        · have hn1 : Nat.beq (n % 2) 1 = true := by rw [h1]; rfl
          simp only [hn1, cond_true]
          by_cases hm : m = 0
          · subst hm; simp [Tr.get, h0]
          · have hm0 : Nat.beq m 0 = false := by cases m <;> simp_all [Nat.beq]
            by_cases hm1 : m % 2 = 1
            · have hm1' : Nat.beq (m % 2) 1 = true := by rw [hm1]; rfl
              simp only [Tr.get, hm0, hm1', cond_false, cond_true]
              rw [ih l (n / 2) (m / 2) x (by omega)]
              by_cases e : n = m
              · subst e; simp
              · rw [if_neg e, if_neg (by omega)]
            · have hm1' : Nat.beq (m % 2) 1 = false := by
                have : m % 2 = 0 := by omega
                rw [this]; rfl
              simp only [Tr.get, hm0, hm1', cond_false]
              rw [if_neg (by omega)]
        · have hn1 : Nat.beq (n % 2) 1 = false := by
            have : n % 2 = 0 := by omega
            rw [this]; rfl
          simp only [hn1, cond_false]
          by_cases hm : m = 0
          · subst hm; simp [Tr.get, h0]
          · have hm0 : Nat.beq m 0 = false := by cases m <;> simp_all [Nat.beq]
            by_cases hm1 : m % 2 = 1
            · have hm1' : Nat.beq (m % 2) 1 = true := by rw [hm1]; rfl
              simp only [Tr.get, hm0, hm1', cond_false, cond_true]
              rw [if_neg (by omega)]
            · have hm1' : Nat.beq (m % 2) 1 = false := by
                have : m % 2 = 0 := by omega
                rw [this]; rfl
              simp only [Tr.get, hm0, hm1', cond_false]
              rw [ih r (n / 2 - 1) (m / 2 - 1) x (by omega)]
              by_cases e : n = m
              · subst e; simp
              · rw [if_neg e, if_neg (by omega)]
    cases t with
    | lf => exact key .lf none .lf (fun k => by simp [Tr.get]) rfl
    | nd l v r => exact key l v r (fun _ => rfl) rfl

theorem Tr.get_put {α : Type} (t : Tr α) (n m : Nat) (x : Option α) : (t.put n x).get m = if n = m then x else t.get m := Tr.get_setF _ _ _ _ _ (by omega)
@[simp] theorem Tr.get_lf {α : Type} (n : Nat) : (Tr.lf : Tr α).get n = none := rfl

/-- The trie of a list, from an index on. -/
def Tr.fill {α : Type} : List α → Nat → Tr α → Tr α
  | [], _, t => t
  | x :: l, i, t => Tr.fill l (i + 1) (t.put i (some x))
def Tr.ofList {α : Type} (l : List α) : Tr α := Tr.fill l 0 .lf
theorem Tr.get_fill {α : Type} : ∀ (l : List α) (i : Nat) (t : Tr α) (m : Nat), (Tr.fill l i t).get m = if i ≤ m ∧ m < i + l.length then l[m - i]? else t.get m := by
  intro l
  induction l with
  | nil => intro i t m; simp [Tr.fill]; intro h h'; omega
  | cons x l ih =>
    intro i t m
    simp only [Tr.fill, ih, Tr.get_put, List.length_cons]
    by_cases h : i = m
    · subst h; simp; intro h1; omega
    · by_cases h2 : i + 1 ≤ m ∧ m < i + 1 + l.length
      · rw [if_pos h2, if_pos (by omega)]
        have : m - i = (m - (i + 1)) + 1 := by omega
        rw [this, List.getElem?_cons_succ]
      · rw [if_neg h2, if_neg h, if_neg (by omega)]
theorem Tr.get_ofList {α : Type} (l : List α) (m : Nat) : (Tr.ofList l).get m = l[m]? := by
  rw [Tr.ofList, Tr.get_fill]
  simp only [Nat.zero_le, true_and, Nat.zero_add, Nat.sub_zero, Tr.get_lf]
  split
  · rfl
  · rw [List.getElem?_eq_none (by omega)]

end Go.Sh
