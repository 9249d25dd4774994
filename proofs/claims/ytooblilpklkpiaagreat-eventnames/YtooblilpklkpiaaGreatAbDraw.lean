/- Regions: in the text's order, and in whatever order. -/
import Derived.Test.YtooblilpklkpiaaGreatAbMach2
set_option linter.unusedSimpArgs false
set_option linter.unusedVariables false
namespace Go.Ab
variable {P : Program} {w0 : World} {G : HM → St → Prop} {k : Value → HM} {ρ : Env} {s : St} {w : World} {A : Tree Value} {o : Oper}

/-! ### Runs of single operations, abstractly -/
abbrev X := Tree Value × St
noncomputable def oneX (P : Program) (RR : Rec) (n : Nat) (ops : List Oper) (j : Nat) (x : X) : Option (X × Log) :=
  match ops[j]? with
  | none => some (x, .nil)
  | some o => match wantedA ops x.1 o with
    | true => (match (opA P RR o.op x.1 .ret).run x.2 .nil with
      | some (v, s', l) => some ((putA n x.1 o.dst v, s'), l)
      | none => none)
    | false => some ((putA n x.1 o.dst undef, x.2), .nil)
def RunC (P : Program) (RR : Rec) (n : Nat) (ops : List Oper) : List Nat → X → List (Nat × Log) → X → Prop
  | [], x, ls, z => ls = [] ∧ x = z
  | j :: r, x, ls, z => ∃ y L ls', oneX P RR n ops j x = some (y, L) ∧ ls = (j, L) :: ls' ∧ RunC P RR n ops r y ls' z
section
variable {RR : Rec} {n : Nat} {ops : List Oper}
theorem RunC.append : ∀ {a b : List Nat} {x : X} {ls : List (Nat × Log)} {z : X}, RunC P RR n ops (a ++ b) x ls z →
    ∃ l1 l2 y, ls = l1 ++ l2 ∧ RunC P RR n ops a x l1 y ∧ RunC P RR n ops b y l2 z ∧ l1.map (·.1) = a
  | [], b, x, ls, z, h => ⟨[], ls, x, rfl, ⟨rfl, rfl⟩, h, rfl⟩
  | j :: a, b, x, ls, z, h => by
    obtain ⟨y, L, ls', h1, h2, h3⟩ := h
    obtain ⟨l1, l2, y', g1, g2, g3, g4⟩ := RunC.append (a := a) h3
    exact ⟨(j, L) :: l1, l2, y', by rw [h2, g1]; rfl, ⟨y, L, l1, h1, rfl, g2⟩, g3, by simp [g4]⟩
theorem RunC.join : ∀ {a b : List Nat} {x y z : X} {l1 l2 : List (Nat × Log)}, RunC P RR n ops a x l1 y → RunC P RR n ops b y l2 z → RunC P RR n ops (a ++ b) x (l1 ++ l2) z
  | [], b, x, y, z, l1, l2, h, h' => by obtain ⟨rfl, rfl⟩ := h; exact h'
  | j :: a, b, x, y, z, l1, l2, h, h' => by
    obtain ⟨y', L, ls', h1, h2, h3⟩ := h
    subst h2
    exact ⟨y', L, ls' ++ l2, h1, rfl, RunC.join h3 h'⟩

/-! temporaries -/
theorem get_put (n : Nat) (A : Tree Value) (d : Option Tmp) (v : Value) (t : Nat) (h : d ≠ some t) : (putA n A d v).get t = A.get t := by
  cases d with
  | none => rfl
  | some d =>
    rw [putA_some]
    split
    · exact Tree.get_upd_ne _ _ _ _ (fun e => h (by rw [e]))
    · rfl
theorem put_comm (n : Nat) (A : Tree Value) {x y : Option Tmp} (v u : Value) (h : ∀ d, x = some d → y ≠ some d) : putA n (putA n A x v) y u = putA n (putA n A y u) x v := by
  cases x with
  | none => rfl
  | some d =>
    cases y with
    | none => rfl
    | some e =>
      have hne : e ≠ d := fun he => h d rfl (he ▸ rfl)
      rw [putA_some, putA_some, putA_some, putA_some]
      by_cases h1 : d < n <;> by_cases h2 : e < n <;> simp only [h1, h2, if_true, if_false]
      exact Tree.upd_comm _ _ _ _ _ hne
theorem ev_put {n : Nat} {A : Tree Value} {d : Option Tmp} {v : Value} {x : Operand} (h : ∀ t, d = some t → x ≠ .tmp t) : ev (putA n A d v) x = ev A x := by
  cases x with
  | tmp t => show ((putA n A d v).get t).getD undef = (A.get t).getD undef; rw [get_put _ _ _ _ _ fun e => h t e rfl]
  | _ => rfl
theorem opB_congr {A A' : Tree Value} {op : Op} (h : ∀ x ∈ op.operands.toList, ev A x = ev A' x) (k : Value → HM) : opB P RR op A k = opB P RR op A' k := by
  have hl : ∀ l : List Operand, (∀ x ∈ l, ev A x = ev A' x) → l.map (ev A) = l.map (ev A') := fun l h => List.map_congr_left h
  have hp : ∀ ps : List (Nat × Operand), (∀ x ∈ ps.map (·.2), ev A x = ev A' x) → (ps.map fun p => (p.1, ev A p.2)) = ps.map fun p => (p.1, ev A' p.2) := fun ps h =>
    List.map_congr_left fun p hp => by rw [h p.2 (List.mem_map.2 ⟨p, hp, rfl⟩)]
  have ho : ∀ x : Option Operand, (∀ y, x = some y → ev A y = ev A' y) → x.map (ev A) = x.map (ev A') := fun x h => by cases x with | none => rfl | some y => simp [h y rfl]
  cases op with
  | move x => show oMove x A k = oMove x A' k; unfold oMove; rw [h x (by simp [Op.operands])]
  | assign x => show oMove x A k = oMove x A' k; unfold oMove; rw [h x (by simp [Op.operands])]
  | pick c a b => show oPick c a b A k = oPick c a b A' k; unfold oPick; rw [h c (by simp [Op.operands]), h a (by simp [Op.operands]), h b (by simp [Op.operands])]
  | alloc t => rfl
  | box t x => show oBox P t x A k = oBox P t x A' k; unfold oBox; rw [h x (by simp [Op.operands])]
  | build t ps => show oBuild P t ps A k = oBuild P t ps A' k; unfold oBuild; rw [hp _ (by simpa [Op.operands] using h)]
  | buildSlice t l ps => show oBuildSlice P t l ps A k = oBuildSlice P t l ps A' k; unfold oBuildSlice; rw [hp _ (by simpa [Op.operands] using h)]
  | insert t m key x => show oUpdate P t m key x A k = oUpdate P t m key x A' k; unfold oUpdate; rw [h m (by simp [Op.operands]), h key (by simp [Op.operands]), h x (by simp [Op.operands])]
  | load t x => show oLoad P t x A k = oLoad P t x A' k; unfold oLoad; rw [h x (by simp [Op.operands])]
  | store t x y => show oStore P t x y A k = oStore P t x y A' k; unfold oStore; rw [h x (by simp [Op.operands]), h y (by simp [Op.operands])]
  | ready g => rfl
  | waits g => rfl
  | nilCheck x => show oNil x A k = oNil x A' k; unfold oNil; rw [h x (by simp [Op.operands])]
  | binOp op t x y u => show oBin P op t x y u A k = oBin P op t x y u A' k; unfold oBin; rw [h x (by simp [Op.operands]), h y (by simp [Op.operands])]
  | unOp op t x => show oUn P op t x A k = oUn P op t x A' k; unfold oUn; rw [h x (by simp [Op.operands])]
  | convert a b x => show oConvert P a b x A k = oConvert P a b x A' k; unfold oConvert; rw [h x (by simp [Op.operands])]
  | sliceToArrayPointer a x => rfl
  | makeInterface t x => show oIface P t x A k = oIface P t x A' k; unfold oIface; rw [h x (by simp [Op.operands])]
  | makeFunc fn fs cs =>
    simp only [Op.operands, Array.toList_append, List.mem_append] at h
    show oFunc fn fs cs A k = oFunc fn fs cs A' k; unfold oFunc; rw [hl _ fun x hx => h x (.inl hx), hl _ fun x hx => h x (.inr hx)]
  | makeMap t r => rfl
  | makeChan t x => rfl
  | makeSlice t x y => show oMakeSlice P t x y A k = oMakeSlice P t x y A' k; unfold oMakeSlice; rw [h x (by simp [Op.operands]), h y (by simp [Op.operands])]
  | slice t x lo hi mx =>
    simp only [Op.operands, Array.toList_append, List.mem_append] at h
    show oSlice P t x lo hi mx A k = oSlice P t x lo hi mx A' k
    unfold oSlice
    rw [h x (.inl (.inl (.inl (by simp)))), ho lo (fun y hy => h y (.inl (.inl (.inr (by simp [hy]))))), ho hi (fun y hy => h y (.inl (.inr (by simp [hy])))), ho mx (fun y hy => h y (.inr (by simp [hy])))]
  | fieldAddr t x f => show oFieldAddr P t x f A k = oFieldAddr P t x f A' k; unfold oFieldAddr; rw [h x (by simp [Op.operands])]
  | field t x f => show oField P t x f A k = oField P t x f A' k; unfold oField; rw [h x (by simp [Op.operands])]
  | indexAddr t x y => show oIndexAddr P t x y A k = oIndexAddr P t x y A' k; unfold oIndexAddr; rw [h x (by simp [Op.operands]), h y (by simp [Op.operands])]
  | index t x y => show oIndex P t x y A k = oIndex P t x y A' k; unfold oIndex; rw [h x (by simp [Op.operands]), h y (by simp [Op.operands])]
  | lookup t x y b => show oLookup P t x y b A k = oLookup P t x y b A' k; unfold oLookup; rw [h x (by simp [Op.operands]), h y (by simp [Op.operands])]
  | mapUpdate t m key x => show oUpdate P t m key x A k = oUpdate P t m key x A' k; unfold oUpdate; rw [h m (by simp [Op.operands]), h key (by simp [Op.operands]), h x (by simp [Op.operands])]
  | mapEntry t m key => rfl
  | entryStore t m x y => rfl
  | range t x => show oRange P t x A k = oRange P t x A' k; unfold oRange; rw [h x (by simp [Op.operands])]
  | next x b => show oNext x b A k = oNext x b A' k; unfold oNext; rw [h x (by simp [Op.operands])]
  | entry x => show oEntry x A k = oEntry x A' k; unfold oEntry; rw [h x (by simp [Op.operands])]
  | typeAssert x a b c => show oAssert P x a b c A k = oAssert P x a b c A' k; unfold oAssert; rw [h x (by simp [Op.operands])]
  | extract x n => show oExtract x n A k = oExtract x n A' k; unfold oExtract; rw [h x (by simp [Op.operands])]
  | call c =>
    simp only [Op.operands, Call.operands, Array.toList_append, List.mem_append] at h
    show oCall P RR c A k = oCall P RR c A' k
    unfold oCall
    rw [hl _ fun x hx => h x (.inr hx)]
    cases hc : c.callee with
    | builtin b => rfl
    | invoke r nm => simp only; rw [h r (.inl (by rw [hc]; simp))]
    | value f => simp only; rw [h f (.inl (by rw [hc]; simp))]
  | go c => rfl
  | defer c => rfl
  | panic x => rfl
  | send a b => rfl
  | recv a b c => rfl
  | select a b => rfl
theorem opA_put {n : Nat} {A : Tree Value} {d : Option Tmp} {v : Value} {opsA : Array Oper} (h : ∀ t, d = some t → t ∉ o.looksAt opsA) (k : Value → HM) : opA P RR o.op (putA n A d v) k = opA P RR o.op A k := by
  unfold opA
  rw [opB_congr (A' := A) fun x hx => ?_]
  refine ev_put fun t ht e => h t ht ?_
  subst e
  unfold Oper.looksAt
  exact List.mem_append.2 (.inl (List.mem_filterMap.2 ⟨_, hx, rfl⟩))
theorem wanted_put {n : Nat} {A : Tree Value} {d : Option Tmp} {v : Value} {opsA : Array Oper} (h : ∀ t, d = some t → t ∉ o.looksAt opsA) : wantedA opsA.toList (putA n A d v) o = wantedA opsA.toList A o := by
  unfold wantedA
  cases hgd : o.guard with
  | none => rfl
  | some g =>
    obtain ⟨j, want⟩ := g
    have : yes? (putA n A d v) opsA.toList j = yes? A opsA.toList j := by
      unfold yes?
      cases hd : (opsA.toList[j]?).bind (·.dst) with
      | none => rfl
      | some t =>
        simp only
        rw [get_put _ _ _ _ _ fun e => h t e ?_]
        unfold Oper.looksAt
        rw [hgd]
        refine List.mem_append.2 (.inr ?_)
        have : (opsA[j]?).bind (·.dst) = some t := by simpa using hd
        simp [this]
    simp only [this]
/-- Two operations that do not clash change places. -/
theorem oneX_swap {opsA : Array Oper} {i j : Nat} {oi oj : Oper} (hi : opsA[i]? = some oi) (hj : opsA[j]? = some oj) (hap : oi.apart opsA oj = true) {x y z : X} {Li Lj : Log}
    (h1 : oneX P RR n opsA.toList i x = some (y, Li)) (h2 : oneX P RR n opsA.toList j y = some (z, Lj)) (hl : Apart Li Lj) :
    ∃ y', oneX P RR n opsA.toList j x = some (y', Lj) ∧ oneX P RR n opsA.toList i y' = some (z, Li) := by
  obtain ⟨p1, p2, p3⟩ := Oper.apart_spec hap
  have hi' : opsA.toList[i]? = some oi := by simpa using hi
  have hj' : opsA.toList[j]? = some oj := by simpa using hj
  unfold oneX at h1 h2 ⊢
  simp only [hi', hj'] at h1 h2 ⊢
  cases hwi : wantedA opsA.toList x.1 oi with
  | false =>
    rw [hwi] at h1
    simp only [Option.some.injEq, Prod.mk.injEq] at h1
    obtain ⟨rfl, rfl⟩ := h1
    simp only [wanted_put p1, opA_put p1] at h2
    cases hwj : wantedA opsA.toList x.1 oj with
    | false =>
      rw [hwj] at h2
      simp only [Option.some.injEq, Prod.mk.injEq] at h2
      obtain ⟨rfl, rfl⟩ := h2
      refine ⟨_, rfl, ?_⟩
      simp only [wanted_put p3, hwi]
      rw [put_comm n x.1 _ _ p2]
    | true =>
      rw [hwj] at h2
      simp only at h2
      split at h2
      · rename_i v s' l hrun
        simp only [Option.some.injEq, Prod.mk.injEq] at h2
        obtain ⟨rfl, rfl⟩ := h2
        refine ⟨_, rfl, ?_⟩
        simp only [wanted_put p3, hwi]
        rw [put_comm n x.1 _ _ p2]
      · simp at h2
  | true =>
    rw [hwi] at h1
    simp only at h1
    split at h1
    · rename_i v s' l hrun
      simp only [Option.some.injEq, Prod.mk.injEq] at h1
      obtain ⟨rfl, rfl⟩ := h1
      simp only [wanted_put p1, opA_put p1] at h2
      cases hwj : wantedA opsA.toList x.1 oj with
      | false =>
        rw [hwj] at h2
        simp only [Option.some.injEq, Prod.mk.injEq] at h2
        obtain ⟨rfl, rfl⟩ := h2
        refine ⟨_, rfl, ?_⟩
        simp only [wanted_put p3, hwi, opA_put p3, hrun]
        rw [put_comm n x.1 _ _ p2]
      | true =>
        rw [hwj] at h2
        simp only at h2
        split at h2
        · rename_i v2 s2 l2 hrun2
          simp only [Option.some.injEq, Prod.mk.injEq] at h2
          obtain ⟨rfl, rfl⟩ := h2
          obtain ⟨t, g1, g2⟩ := run_swap hrun hrun2 hl
          refine ⟨_, by rw [g1], ?_⟩
          simp only [wanted_put p3, hwi, opA_put p3, g2]
          rw [put_comm n x.1 _ _ p2]
        · simp at h2
    · simp at h1
/-- An operation that clashes with none of those ahead of it may be taken first. -/
theorem RunC.bubble {opsA : Array Oper} {i : Nat} {oi : Oper} (hi : opsA[i]? = some oi) : ∀ {c : List Nat} {x y z : X} {ls : List (Nat × Log)} {Li : Log}, RunC P RR n opsA.toList c x ls y → oneX P RR n opsA.toList i y = some (z, Li) →
    (∀ p ∈ ls, Apart p.2 Li ∧ ∃ oj, opsA[p.1]? = some oj ∧ oj.apart opsA oi = true) → ∃ x', oneX P RR n opsA.toList i x = some (x', Li) ∧ RunC P RR n opsA.toList c x' ls z
  | [], x, y, z, ls, Li, h, h', _ => by obtain ⟨rfl, rfl⟩ := h; exact ⟨z, h', rfl, rfl⟩
  | j :: c, x, y, z, ls, Li, h, h', hc => by
    obtain ⟨x1, L, ls', h1, h2, h3⟩ := h
    subst h2
    obtain ⟨x1', g1, g2⟩ := RunC.bubble hi h3 h' fun p hp => hc p (List.mem_cons_of_mem _ hp)
    obtain ⟨q1, oj, q2, q3⟩ := hc (j, L) (List.mem_cons_self ..)
    obtain ⟨x', r1, r2⟩ := oneX_swap q2 hi q3 h1 g1 q1
    exact ⟨x', r1, x1', L, ls', r2, rfl, g2⟩
end
end Go.Ab
