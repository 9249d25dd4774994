/- Regions: whatever order is drawn, the text's order tells what comes of it. -/
import Derived.Test.YtooblilpklkpiaaGreatAbDraw
set_option linter.unusedSimpArgs false
set_option linter.unusedVariables false
namespace Go.Ab
variable {P : Program} {w0 : World} {G : HM → St → Prop} {k : Value → HM} {ρ : Env} {s : St} {w : World} {A : Tree Value} {o : Oper} {RR : Rec} {n : Nat}
/-- What a pair of a region's operations is: ordered, or without a clash. -/
def okPair (preds : List (List Nat)) (p q : Nat × Log) : Prop := p.1 ∈ preds.getD q.1 [] ∨ Apart p.2 q.2
theorem nil_apart (l : Log) : Apart .nil l ∧ Apart l .nil := none_apart (l := .nil) rfl l
theorem runner_run (res : Value × St × Log) : Runner (fun m s => ∃ l, m.run s l = some res) where
  fail := by rintro s ⟨l, h⟩; simp [run_fail] at h
  gb := by
    rintro b k s ⟨l, h⟩
    rw [run_gb] at h
    split at h
    · rename_i x hx; exact ⟨x, hx, _, h⟩
    · simp at h
  sb := by
    rintro b v k s ⟨l, h⟩
    rw [run_sb] at h
    split at h
    · rename_i x hx; exact ⟨⟨x, hx⟩, _, h⟩
    · simp at h
  mk_ := by
    rintro x k s ⟨l, h⟩
    rw [run_mk] at h
    split at h
    · exact ⟨_, h⟩
    · simp at h
  kill := by rintro b k s ⟨l, h⟩; exact ⟨_, h⟩
  choose := by
    rintro m k s ⟨l, h⟩ i h1 h2
    rw [run_choose] at h
    split at h
    · rename_i hm; rw [h1 hm]; exact ⟨_, h⟩
    · simp at h
  iso := by
    rintro m k s ⟨l, h⟩
    rw [run_iso] at h
    split at h
    · rename_i v s' l' hr; exact ⟨v, s', l', hr, _, h⟩
    · simp at h

/-- The drawn region's rule: a run in the text's order, each pair ordered or without a clash. -/
theorem drawA_run (R : Runner G) {ops : List Oper} {preds : List (List Nat)} {kA : Tree Value → HM} : ∀ {todo : List Oper} {i : Nat} {done hist : List (Nat × Log)} {A : Tree Value} {s : St},
    (∀ j, todo[j]? = ops[i + j]?) → (∀ p ∈ hist, p.2.none? = true ∨ p ∈ done) → G (drawA P RR n ops preds todo i done A kA) s →
    ∃ A' s' ls, RunC P RR n ops (List.range' i todo.length) (A, s) ls (A', s') ∧ G (kA A') s' ∧ ls.Pairwise (okPair preds) ∧ ∀ q ∈ ls, ∀ p ∈ hist, okPair preds p q
  | [], i, done, hist, A, s, ht, hh, hg => ⟨A, s, [], ⟨rfl, rfl⟩, hg, List.Pairwise.nil, by simp⟩
  | o :: todo, i, done, hist, A, s, ht, hh, hg => by
    have ho : ops[i]? = some o := by have := ht 0; simpa using this.symm
    have ht' : ∀ j, todo[j]? = ops[i + 1 + j]? := fun j => by have := ht (j + 1); simpa [Nat.add_assoc, Nat.add_comm 1 j] using this
    have hg : G (Bool.rec (drawA P RR n ops preds todo (i + 1) done (putA n A o.dst undef) kA)
        (.iso (opA P RR o.op A .ret) fun v l =>
          Bool.rec (Bool.rec (drawA P RR n ops preds todo (i + 1) ((i, l) :: done) (putA n A o.dst v) kA) .fail (done.any fun p => p.2.clash l && !(preds.getD i []).contains p.1))
            (drawA P RR n ops preds todo (i + 1) done (putA n A o.dst v) kA) l.none?)
        (wantedA ops A o)) s := hg
    cases hw : wantedA ops A o with
    | false =>
      rw [hw] at hg
      obtain ⟨A', s', ls, h1, h2, h3, h4⟩ := drawA_run R ht' (hist := (i, .nil) :: hist) (fun p hp => by
        cases hp with
        | head => exact .inl rfl
        | tail _ hp => exact hh p hp) hg
      refine ⟨A', s', (i, .nil) :: ls, ⟨_, _, ls, ?_, rfl, h1⟩, h2, List.pairwise_cons.2 ⟨fun q hq => h4 q hq (i, .nil) (List.mem_cons_self ..), h3⟩, fun q hq p hp => ?_⟩
      · simp only [oneX, ho, hw]
      · cases hq with
        | head => exact .inr (nil_apart _).2
        | tail _ hq => exact h4 q hq p (List.mem_cons_of_mem _ hp)
    | true =>
      rw [hw] at hg
      obtain ⟨v, s1, l, hrun, hg⟩ := R.iso hg
      have hone : oneX P RR n ops i (A, s) = some ((putA n A o.dst v, s1), l) := by simp only [oneX, ho, hw, hrun]
      cases hnone : l.none? with
      | true =>
        rw [hnone] at hg
        obtain ⟨A', s', ls, h1, h2, h3, h4⟩ := drawA_run R ht' (hist := (i, l) :: hist) (fun p hp => by
          cases hp with
          | head => exact .inl hnone
          | tail _ hp => exact hh p hp) hg
        refine ⟨A', s', (i, l) :: ls, ⟨_, _, ls, hone, rfl, h1⟩, h2, List.pairwise_cons.2 ⟨fun q hq => h4 q hq (i, l) (List.mem_cons_self ..), h3⟩, fun q hq p hp => ?_⟩
        cases hq with
        | head => exact .inr (none_apart hnone _).2
        | tail _ hq => exact h4 q hq p (List.mem_cons_of_mem _ hp)
      | false =>
        rw [hnone] at hg
        cases hcl : (done.any fun p => p.2.clash l && !(preds.getD i []).contains p.1) with
        | true => rw [hcl] at hg; exact absurd hg R.fail
        | false =>
          rw [hcl] at hg
          obtain ⟨A', s', ls, h1, h2, h3, h4⟩ := drawA_run R ht' (hist := (i, l) :: hist) (fun p hp => by
            cases hp with
            | head => exact .inr (List.mem_cons_self ..)
            | tail _ hp => exact (hh p hp).imp id (List.mem_cons_of_mem _)) hg
          refine ⟨A', s', (i, l) :: ls, ⟨_, _, ls, hone, rfl, h1⟩, h2, List.pairwise_cons.2 ⟨fun q hq => h4 q hq (i, l) (List.mem_cons_self ..), h3⟩, fun q hq p hp => ?_⟩
          cases hq with
          | head =>
            rcases hh p hp with hp' | hp'
            · exact .inr (none_apart hp' _).1
            · have := List.any_eq_false.1 hcl p hp'
              simp only [Bool.and_eq_true, not_and, Bool.not_eq_true', Bool.not_eq_false] at this
              cases hc : p.2.clash l with
              | false => exact .inr (clash_apart hc)
              | true => exact .inl (by have := this hc; simpa using this)
          | tail _ hq => exact h4 q hq p (List.mem_cons_of_mem _ hp)

/-! ### Whatever order -/
def rem (ops : Array Oper) (listed : Array Bool) : List Nat := (List.range ops.size).filter fun i => !listed.getD i true
/-- What is listed has all that must come ahead of it listed. -/
def Shut (ops : Array Oper) (listed : Array Bool) : Prop := ∀ j o, ops[j]? = some o → listed.getD j true = true → ∀ e ∈ o.after.toList, Region.binds .any e = true → listed.getD e.on false = true
theorem getD_tf {listed : Array Bool} {i n : Nat} (h : listed.size = n) (hi : i < n) : listed.getD i true = listed.getD i false := by
  have : i < listed.size := by omega
  simp [this]
theorem preds_go (acc : List (List Nat)) : ∀ (l : List Oper), ∃ r, predsA acc l = acc ++ r ∧ r.length = l.length
  | [] => ⟨[], by simp [predsA], rfl⟩
  | o :: l => by
    obtain ⟨r, h1, h2⟩ := preds_go (acc ++ [o.after.toList.flatMap fun e => if Region.binds .any e then e.on :: acc.getD e.on [] else []]) l
    exact ⟨(o.after.toList.flatMap fun e => if Region.binds .any e then e.on :: acc.getD e.on [] else []) :: r, by rw [predsA, h1]; simp, by simp [h2]⟩
theorem getD_app_l (a b : List (List Nat)) (i : Nat) (h : i < a.length) : (a ++ b).getD i [] = a.getD i [] := by
  simp only [List.getD_eq_getElem?_getD, List.getElem?_append_left h]
theorem getD_app_r (a : List (List Nat)) (x : List Nat) : (a ++ [x]).getD a.length [] = x := by
  simp [List.getD_eq_getElem?_getD]
/-- All that must come ahead of an operation is listed, if its own edges are. -/
theorem preds_listed {ops : Array Oper} {listed : Array Bool} (hsz : listed.size = ops.size) (hshut : Shut ops listed)
    (hdown : ∀ j o, ops[j]? = some o → ∀ e ∈ o.after.toList, Region.binds .any e = true → e.on < j) :
    ∀ (l : List Oper) (acc : List (List Nat)), (∀ j, l[j]? = ops[acc.length + j]?) →
      (∀ i, i < acc.length → ∀ o, ops[i]? = some o → (∀ e ∈ o.after.toList, Region.binds .any e = true → listed.getD e.on false = true) → ∀ m ∈ acc.getD i [], listed.getD m false = true) →
      ∀ i o, ops[i]? = some o → (∀ e ∈ o.after.toList, Region.binds .any e = true → listed.getD e.on false = true) → i < acc.length + l.length → ∀ m ∈ (predsA acc l).getD i [], listed.getD m false = true
  | [], acc, _, hacc, i, o, ho, he, hi, m, hm => hacc i (by simpa using hi) o ho he m (by simpa [predsA] using hm)
  | a :: l, acc, hl, hacc, i, o, ho, he, hi, m, hm => by
    have ha : ops[acc.length]? = some a := by have := hl 0; simpa using this.symm
    refine preds_listed hsz hshut hdown l (acc ++ [a.after.toList.flatMap fun e => if Region.binds .any e then e.on :: acc.getD e.on [] else []])
      (fun j => by have := hl (j + 1); simpa [Nat.add_assoc, Nat.add_comm 1 j] using this) (fun i' hi' o' ho' he' m' hm' => ?_) i o ho he (by simp at hi ⊢; omega) m (by rw [predsA] at hm; exact hm)
    by_cases hlt : i' < acc.length
    · rw [getD_app_l _ _ _ hlt] at hm'
      exact hacc i' hlt o' ho' he' m' hm'
    · have hii : i' = acc.length := by simp at hi'; omega
      subst hii
      rw [ha] at ho'
      cases ho'
      rw [getD_app_r] at hm'
      simp only [List.mem_flatMap] at hm'
      obtain ⟨ed, hed, hm'⟩ := hm'
      split at hm'
      · rename_i hb
        have hlist := he' ed hed hb
        cases hm' with
        | head => exact hlist
        | tail _ hm' =>
          have hon : ed.on < acc.length := hdown _ a ha ed hed hb
          have hlt' : ed.on < ops.size := by
            have := (Array.getElem?_eq_some_iff.1 ha).1; omega
          have hoo : ops[ed.on]? = some ops[ed.on] := by simp [hlt']
          refine hacc ed.on hon _ hoo (fun e' he'' hb' => ?_) m' hm'
          exact hshut ed.on _ hoo (by rw [getD_tf hsz hlt']; exact hlist) e' he'' hb'
      · simp at hm'
theorem set_getD {listed : Array Bool} {i j n : Nat} (hsz : listed.size = n) (hi : i < n) (d : Bool) : (listed.setIfInBounds i true).getD j d = if j = i then true else listed.getD j d := by
  simp only [Array.getD_eq_getD_getElem?, Array.getElem?_setIfInBounds, hsz]
  by_cases h : i = j
  · subst h; simp [hi]
  · simp [h, Ne.symm h]
theorem any_order {opsA : Array Oper} {preds : List (List Nat)} (hpreds : preds = predsA [] opsA.toList)
    (hdown : ∀ j o, opsA[j]? = some o → ∀ e ∈ o.after.toList, Region.binds .any e = true → e.on < j) (hap : apartA opsA preds = true) :
    ∀ (fuel t : Nat) (listed : Array Bool) (x z : X) (ls : List (Nat × Log)), listed.size = opsA.size → Shut opsA listed → (rem opsA listed).length ≤ fuel →
      RunC P RR n opsA.toList (rem opsA listed) x ls z → ls.Pairwise (okPair preds) → ∃ ls', RunC P RR n opsA.toList (Region.linearise.go .any opsA fuel t listed []) x ls' z := by
  intro fuel
  induction fuel with
  | zero =>
    intro t listed x z ls hsz hshut hlen hrun hpw
    have : rem opsA listed = [] := List.eq_nil_of_length_eq_zero (by omega)
    rw [this] at hrun
    obtain ⟨_, rfl⟩ := hrun
    exact ⟨[], rfl, rfl⟩
  | succ fuel ih =>
    intro t listed x z ls hsz hshut hlen hrun hpw
    simp only [Region.linearise.go]
    change ∃ ls', RunC P RR n opsA.toList (match (Region.ready .any opsA listed)[t % (Region.ready .any opsA listed).length]? with
      | some i => Region.linearise.go .any opsA fuel (t / (Region.ready .any opsA listed).length) (listed.setIfInBounds i true) [i]
      | none => [].reverse) x ls' z
    cases hi : (Region.ready .any opsA listed)[t % (Region.ready .any opsA listed).length]? with
    | none =>
      have hnil : Region.ready .any opsA listed = [] := by
        cases hr : Region.ready .any opsA listed with
        | nil => rfl
        | cons y ys =>
          rw [hr] at hi
          have hlt : t % (y :: ys).length < (y :: ys).length := Nat.mod_lt _ (by simp)
          simp at hi
          simp at hlt
          omega
      -- nothing may come: nothing is left
      have hrem : rem opsA listed = [] := by
        apply Decidable.byContradiction
        intro hne
        have hex : ∃ i, i ∈ rem opsA listed := by
          cases hr : rem opsA listed with
          | nil => exact absurd hr hne
          | cons a l => exact ⟨a, List.mem_cons_self ..⟩
        have key : ∀ m i, i ≤ m → i ∈ rem opsA listed → False := by
          intro m
          induction m with
          | zero =>
            intro i hm hi
            have hi0 : i = 0 := by omega
            subst hi0
            simp only [rem, List.mem_filter, List.mem_range] at hi
            have : 0 ∈ Region.ready .any opsA listed := by
              simp only [Region.ready, List.mem_filter, List.mem_range, Bool.and_eq_true]
              refine ⟨hi.1, hi.2, ?_⟩
              have ho : opsA[0]? = some opsA[0] := by simp [hi.1]
              rw [ho]
              simp only [Option.map_some, Option.getD_some]
              rw [← Array.all_toList, List.all_eq_true]
              intro e he
              cases hb : Region.binds .any e with
              | false => rfl
              | true => exact absurd (hdown 0 _ ho e he hb) (by omega)
            rw [hnil] at this; cases this
          | succ m ihm =>
            intro i hm hi
            have hi' := hi
            simp only [rem, List.mem_filter, List.mem_range] at hi
            by_cases hall : ∀ e ∈ (opsA[i]'hi.1).after.toList, Region.binds .any e = true → listed.getD e.on false = true
            · have : i ∈ Region.ready .any opsA listed := by
                simp only [Region.ready, List.mem_filter, List.mem_range, Bool.and_eq_true]
                refine ⟨hi.1, hi.2, ?_⟩
                have ho : opsA[i]? = some (opsA[i]'hi.1) := by simp [hi.1]
                rw [ho]
                simp only [Option.map_some, Option.getD_some]
                rw [← Array.all_toList, List.all_eq_true]
                intro e he
                cases hb : Region.binds .any e with
                | false => rfl
                | true => simp only [Bool.not_true, Bool.false_or]; exact hall e he hb
              rw [hnil] at this; cases this
            · simp only [Classical.not_forall] at hall
              obtain ⟨e, he, hb, hnl⟩ := hall
              have ho : opsA[i]? = some (opsA[i]'hi.1) := by simp [hi.1]
              have hlt := hdown i _ ho e he hb
              refine ihm e.on (by omega) ?_
              simp only [rem, List.mem_filter, List.mem_range]
              refine ⟨by omega, ?_⟩
              rw [getD_tf hsz (by omega)]
              simpa using hnl
        obtain ⟨i, hi⟩ := hex
        exact key i i (Nat.le_refl _) hi
      rw [hrem] at hrun
      obtain ⟨_, rfl⟩ := hrun
      exact ⟨[], rfl, rfl⟩
    | some i =>
      simp only []
      rw [linearise_go_acc, List.reverse_singleton, List.singleton_append]
      have hmem := List.mem_of_getElem? hi
      simp only [Region.ready, List.mem_filter, List.mem_range, Bool.and_eq_true] at hmem
      obtain ⟨hlt, hunl, hedges⟩ := hmem
      have ho : opsA[i]? = some (opsA[i]'hlt) := by simp [hlt]
      rw [ho] at hedges
      simp only [Option.map_some, Option.getD_some] at hedges
      rw [← Array.all_toList, List.all_eq_true] at hedges
      have hed : ∀ e ∈ (opsA[i]'hlt).after.toList, Region.binds .any e = true → listed.getD e.on false = true := fun e he hb => by
        have := hedges e he
        rw [hb] at this
        simpa using this
      have hsplit : List.range opsA.size = List.range i ++ i :: List.range' (i + 1) (opsA.size - (i + 1)) := by
        rw [List.range_eq_range', List.range_eq_range', show i :: List.range' (i + 1) (opsA.size - (i + 1)) = List.range' i (opsA.size - i) from by
          rw [show opsA.size - i = (opsA.size - (i + 1)) + 1 from by omega, List.range'_succ]]
        have := List.range'_append (s := 0) (m := i) (n := opsA.size - i) (step := 1)
        simp only [Nat.zero_add, Nat.one_mul] at this
        rw [this]
        congr 1; omega
      have hrem : rem opsA listed = (List.range i).filter (fun i => !listed.getD i true) ++ i :: (List.range' (i + 1) (opsA.size - (i + 1))).filter (fun i => !listed.getD i true) := by
        unfold rem
        rw [hsplit, List.filter_append, List.filter_cons_of_pos (by simpa using hunl)]
      have hrem' : rem opsA (listed.setIfInBounds i true) = (List.range i).filter (fun i => !listed.getD i true) ++ (List.range' (i + 1) (opsA.size - (i + 1))).filter (fun i => !listed.getD i true) := by
        unfold rem
        rw [hsplit, List.filter_append, List.filter_cons_of_neg (by rw [set_getD hsz hlt]; simp)]
        congr 1
        · apply List.filter_congr
          intro j hj
          rw [set_getD hsz hlt, if_neg (by simp at hj; omega)]
        · apply List.filter_congr
          intro j hj
          rw [set_getD hsz hlt, if_neg (by simp [List.mem_range'_1] at hj; omega)]
      rw [hrem] at hrun
      obtain ⟨l1, l2, y, e1, r1, r2, e2⟩ := hrun.append
      obtain ⟨y', Li, l3, r3, e3, r4⟩ := r2
      subst e1 e3
      have hcompat : ∀ p ∈ l1, Apart p.2 Li ∧ ∃ oj, opsA[p.1]? = some oj ∧ oj.apart opsA (opsA[i]'hlt) = true := by
        intro p hp
        have hpm : p.1 ∈ (List.range i).filter (fun i => !listed.getD i true) := by rw [← e2]; exact List.mem_map.2 ⟨p, hp, rfl⟩
        simp only [List.mem_filter, List.mem_range] at hpm
        have hnotin : p.1 ∉ preds.getD i [] := fun hin => by
          have := preds_listed hsz hshut hdown opsA.toList [] (by simp) (by simp) i _ ho hed (by simpa using hlt) p.1 (by rw [← hpreds]; exact hin)
          have h2 := hpm.2
          rw [getD_tf hsz (by omega), this] at h2
          simp at h2
        have hpw' := List.pairwise_append.1 hpw
        have := hpw'.2.2 p hp (i, Li) (List.mem_cons_self ..)
        refine ⟨this.resolve_left hnotin, ?_⟩
        have hlt' : p.1 < opsA.size := by omega
        refine ⟨opsA[p.1]'hlt', by simp [hlt'], ?_⟩
        unfold apartA at hap
        rw [List.all_eq_true] at hap
        have h1 := hap i (by simpa using hlt)
        rw [List.all_eq_true] at h1
        have h2 := h1 p.1 (by simpa using hpm.1)
        simp only [Bool.or_eq_true, Bool.and_eq_true] at h2
        rcases h2 with h2 | h2
        · exact absurd (by simpa using h2) hnotin
        · have a1 : opsA.getD p.1 default = opsA[p.1]'hlt' := by simp [hlt']
          have a2 : opsA.getD i default = opsA[i]'hlt := by simp [hlt]
          rw [a1, a2] at h2
          exact h2.1
      obtain ⟨x', b1, b2⟩ := RunC.bubble ho r1 r3 hcompat
      have hrun' := b2.join r4
      rw [← hrem'] at hrun'
      have hpw2 : (l1 ++ l3).Pairwise (okPair preds) := by
        refine List.Pairwise.sublist ?_ hpw
        exact List.Sublist.append (List.Sublist.refl _) (List.sublist_cons_self _ _)
      obtain ⟨ls', hfin⟩ := ih (t / (Region.ready .any opsA listed).length) (listed.setIfInBounds i true) x' z (l1 ++ l3) (by simp [hsz]) (fun j o hj hl e he hb => by
          rw [set_getD hsz hlt] at hl ⊢
          split
          · rfl
          · split at hl
            · rename_i hji; subst hji; rw [ho] at hj; cases hj; exact hed e he hb
            · exact hshut j o hj hl e he hb) (by
          rw [hrem'] ; rw [hrem] at hlen; simp at hlen ⊢; omega) hrun' hpw2
      exact ⟨(i, Li) :: ls', x', Li, ls', b1, rfl, hfin⟩
end Go.Ab
