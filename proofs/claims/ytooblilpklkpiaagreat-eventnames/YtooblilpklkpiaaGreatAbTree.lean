/- The trees' laws. -/
import Derived.Test.YtooblilpklkpiaaGreatAbDef
namespace Go.Ab.Tree
variable {α : Type}
theorem rec3 {β : Type} (k : Nat) (a b c : β) :
    (Bool.rec (Bool.rec a b (Nat.beq (Nat.mod k 2) 1)) c (Nat.beq k 0) : β) = if k = 0 then c else if k % 2 = 1 then b else a := by
  have e : Nat.mod k 2 = k % 2 := rfl
  rw [e]
  by_cases h : k = 0
  · subst h; rfl
  · have h1 : Nat.beq k 0 = false := by cases k with | zero => exact absurd rfl h | succ n => rfl
    rw [h1, if_neg h]
    by_cases h2 : k % 2 = 1
    · rw [h2, if_pos rfl]; rfl
    · have : k % 2 = 0 := by omega
      rw [this, if_neg (by omega)]; rfl
theorem pred_div (k : Nat) : Nat.pred (Nat.div k 2) = k / 2 - 1 := rfl
@[simp] theorem get_nil (k : Nat) : (nil : Tree α).get k = none := rfl
theorem get_node (v : Option α) (l r : Tree α) (k : Nat) :
    (node v l r).get k = if k = 0 then v else if k % 2 = 1 then l.get (k / 2) else r.get (k / 2 - 1) := by
  show (Bool.rec (Bool.rec (r.get (Nat.pred (Nat.div k 2))) (l.get (Nat.div k 2)) (Nat.beq (Nat.mod k 2) 1)) v (Nat.beq k 0) : Option α) = _
  rw [rec3]; rfl
theorem upd_node (x v : Option α) (l r : Tree α) (k : Nat) :
    upd x (node v l r) k = if k = 0 then node x l r else if k % 2 = 1 then node v (upd x l (k / 2)) r else node v l (upd x r (k / 2 - 1)) := by
  show (Bool.rec (Bool.rec (node v l (upd x r (Nat.pred (Nat.div k 2)))) (node v (upd x l (Nat.div k 2)) r) (Nat.beq (Nat.mod k 2) 1)) (node x l r) (Nat.beq k 0) : Tree α) = _
  rw [rec3]; rfl
theorem one_succ (x : Option α) (f k : Nat) :
    one x (f + 1) k = if k = 0 then node x nil nil else if k % 2 = 1 then node none (one x f (k / 2)) nil else node none nil (one x f (k / 2 - 1)) := by
  show (Bool.rec (Bool.rec (node none nil (one x f (Nat.pred (Nat.div k 2)))) (node none (one x f (Nat.div k 2)) nil) (Nat.beq (Nat.mod k 2) 1)) (node x nil nil) (Nat.beq k 0) : Tree α) = _
  rw [rec3]; rfl
theorem one_irrel (x : Option α) : ∀ (f g k : Nat), k < f → k < g → one x f k = one x g k
  | 0, _, _, h, _ => absurd h (Nat.not_lt_zero _)
  | f + 1, 0, _, _, h => absurd h (Nat.not_lt_zero _)
  | f + 1, g + 1, k, hf, hg => by
    rw [one_succ, one_succ]
    by_cases h : k = 0
    · simp [h]
    · rw [if_neg h, if_neg h, one_irrel x f g (k / 2) (by omega) (by omega), one_irrel x f g (k / 2 - 1) (by omega) (by omega)]
theorem upd_nil' (x : Option α) (k : Nat) : upd x nil k = one x (k + 1) k := rfl
theorem upd_nil (x : Option α) (k : Nat) : upd x nil k = upd x (node none nil nil) k := by
  rw [upd_nil', one_succ, upd_node, upd_nil', upd_nil']
  by_cases h : k = 0
  · simp [h]
  · rw [if_neg h, if_neg h, one_irrel x k (k / 2 + 1) (k / 2) (by omega) (by omega), one_irrel x k (k / 2 - 1 + 1) (k / 2 - 1) (by omega) (by omega)]
theorem get_nil' (k : Nat) : (nil : Tree α).get k = (node none nil nil : Tree α).get k := by rw [get_node]; simp
theorem get_upd (x : Option α) (k : Nat) : ∀ t : Tree α, (upd x t k).get k = x := by
  induction k using Nat.strongRecOn with
  | _ k ih =>
    have main : ∀ (v : Option α) (l r : Tree α), (upd x (node v l r) k).get k = x := by
      intro v l r
      rw [upd_node]
      by_cases h : k = 0
      · subst h; simp [get_node]
      · by_cases h2 : k % 2 = 1
        · rw [if_neg h, if_pos h2, get_node, if_neg h, if_pos h2, ih (k / 2) (by omega)]
        · rw [if_neg h, if_neg h2, get_node, if_neg h, if_neg h2, ih (k / 2 - 1) (by omega)]
    intro t
    cases t with
    | nil => rw [upd_nil]; exact main _ _ _
    | node v l r => exact main _ _ _
theorem get_upd_ne (x : Option α) (k : Nat) : ∀ (j : Nat) (t : Tree α), k ≠ j → (upd x t k).get j = t.get j := by
  induction k using Nat.strongRecOn with
  | _ k ih =>
    intro j t hne
    have main : ∀ (v : Option α) (l r : Tree α), (upd x (node v l r) k).get j = (node v l r).get j := by
      intro v l r
      rw [upd_node]
      by_cases h : k = 0
      · subst h
        have hj : j ≠ 0 := fun e => hne e.symm
        rw [if_pos rfl, get_node, get_node, if_neg hj, if_neg hj]
      · by_cases h2 : k % 2 = 1
        · rw [if_neg h, if_pos h2, get_node, get_node]
          by_cases hj : j = 0
          · simp [hj]
          · by_cases hj2 : j % 2 = 1
            · rw [if_neg hj, if_pos hj2, if_neg hj, if_pos hj2, ih (k / 2) (by omega) _ _ (by omega)]
            · rw [if_neg hj, if_neg hj2, if_neg hj, if_neg hj2]
        · rw [if_neg h, if_neg h2, get_node, get_node]
          by_cases hj : j = 0
          · simp [hj]
          · by_cases hj2 : j % 2 = 1
            · rw [if_neg hj, if_pos hj2, if_neg hj, if_pos hj2]
            · rw [if_neg hj, if_neg hj2, if_neg hj, if_neg hj2, ih (k / 2 - 1) (by omega) _ _ (by omega)]
    cases t with
    | nil => rw [upd_nil, get_nil']; exact main _ _ _
    | node v l r => exact main _ _ _
theorem upd_comm (x y : Option α) (k : Nat) : ∀ (j : Nat) (t : Tree α), k ≠ j → upd x (upd y t j) k = upd y (upd x t k) j := by
  induction k using Nat.strongRecOn with
  | _ k ih =>
    intro j t hne
    have main : ∀ (v : Option α) (l r : Tree α), upd x (upd y (node v l r) j) k = upd y (upd x (node v l r) k) j := by
      intro v l r
      rw [upd_node, upd_node]
      by_cases h : k = 0
      · subst h
        have hj : j ≠ 0 := fun e => hne e.symm
        rw [if_pos rfl, if_neg hj, upd_node, if_neg hj]
        by_cases hj2 : j % 2 = 1
        · rw [if_pos hj2, if_pos hj2, upd_node, if_pos rfl]
        · rw [if_neg hj2, if_neg hj2, upd_node, if_pos rfl]
      · rw [if_neg h]
        by_cases hj : j = 0
        · subst hj
          rw [if_pos rfl, upd_node, if_neg h]
          by_cases h2 : k % 2 = 1
          · rw [if_pos h2, if_pos h2, upd_node, if_pos rfl]
          · rw [if_neg h2, if_neg h2, upd_node, if_pos rfl]
        · rw [if_neg hj]
          by_cases h2 : k % 2 = 1
          · rw [if_pos h2]
            by_cases hj2 : j % 2 = 1
            · rw [if_pos hj2, upd_node, if_neg h, if_pos h2, upd_node, if_neg hj, if_pos hj2, ih (k / 2) (by omega) _ _ (by omega)]
            · rw [if_neg hj2, upd_node, if_neg h, if_pos h2, upd_node, if_neg hj, if_neg hj2]
          · rw [if_neg h2]
            by_cases hj2 : j % 2 = 1
            · rw [if_pos hj2, upd_node, if_neg h, if_neg h2, upd_node, if_neg hj, if_pos hj2]
            · rw [if_neg hj2, upd_node, if_neg h, if_neg h2, upd_node, if_neg hj, if_neg hj2, ih (k / 2 - 1) (by omega) _ _ (by omega)]
    cases t with
    | nil =>
      have e1 : upd x (upd y (nil : Tree α) j) k = upd x (upd y (node none nil nil) j) k := by rw [upd_nil]
      have e2 : upd y (upd x (nil : Tree α) k) j = upd y (upd x (node none nil nil) k) j := by rw [upd_nil]
      rw [e1, e2]; exact main _ _ _
    | node v l r => exact main _ _ _
theorem get_upd_if (x : Option α) (k j : Nat) (t : Tree α) : (upd x t k).get j = if k = j then x else t.get j := by
  by_cases h : k = j
  · subst h; rw [if_pos rfl, get_upd]
  · rw [if_neg h, get_upd_ne x k j t h]
theorem len_odds_evens : ∀ l : List α, (evens l).length + (odds l).length = l.length ∧ (∀ i, (evens l)[i]? = l[2 * i]?) ∧ (∀ i, (odds l)[i]? = l[2 * i + 1]?)
  | [] => by simp [evens, odds]
  | [x] => by
    refine ⟨by simp [evens, odds], fun i => ?_, fun i => by simp [odds]⟩
    cases i <;> simp [evens]
  | x :: y :: l => by
    obtain ⟨h1, h2, h3⟩ := len_odds_evens l
    refine ⟨by simp [evens, odds]; omega, fun i => ?_, fun i => ?_⟩
    · cases i with
      | zero => simp [evens]
      | succ i => simp only [evens, List.getElem?_cons_succ, h2, show 2 * (i + 1) = 2 * i + 1 + 1 from by omega]
    · cases i with
      | zero => simp [odds]
      | succ i => simp only [odds, List.getElem?_cons_succ, h3, show 2 * (i + 1) + 1 = 2 * i + 1 + 1 + 1 from by omega]
theorem get_build : ∀ (f : Nat) (l : List α) (i : Nat), l.length < 2 ^ f → (build f l).get i = l[i]?
  | 0, l, i, h => by
    have : l = [] := List.eq_nil_of_length_eq_zero (by simpa using h)
    simp [build, this]
  | f + 1, [], i, _ => by simp [build]
  | f + 1, x :: l, i, h => by
    obtain ⟨h1, h2, h3⟩ := len_odds_evens l
    have hl : l.length < 2 ^ f * 2 := by simp [Nat.pow_succ] at h; omega
    have le1 : ∀ l : List α, (odds l).length ≤ (evens l).length ∧ (evens l).length ≤ (odds l).length + 1 := by
      intro l
      induction l using evens.induct with
      | case1 => simp [evens, odds]
      | case2 => simp [evens, odds]
      | case3 x y l ih => simp [evens, odds]; omega
    have le2 := le1 l
    have hp : 0 < 2 ^ f := Nat.pos_of_ne_zero (by simp)
    rw [build, get_node]
    by_cases hi : i = 0
    · simp [hi]
    · rw [if_neg hi]
      have hs : (x :: l)[i]? = l[i - 1]? := by
        cases i with
        | zero => exact absurd rfl hi
        | succ i => simp
      by_cases hi2 : i % 2 = 1
      · rw [if_pos hi2, get_build f _ _ (by simp [Nat.pow_succ] at h; omega), h2, hs, show 2 * (i / 2) = i - 1 from by omega]
      · rw [if_neg hi2, get_build f _ _ (by simp [Nat.pow_succ] at h; omega), h3, hs, show 2 * (i / 2 - 1) + 1 = i - 1 from by omega]
theorem get_ofList (l : List α) (i : Nat) (h : l.length < 2 ^ 64) : (ofList l).get i = l[i]? := get_build 64 l i h
end Go.Ab.Tree
