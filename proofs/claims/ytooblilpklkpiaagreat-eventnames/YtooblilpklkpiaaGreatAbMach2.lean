/- One operation, at the machine. -/
import Derived.Test.YtooblilpklkpiaaGreatAbMach
set_option linter.unusedSimpArgs false
set_option linter.unusedVariables false
namespace Go.Ab
variable {P : Program} {w0 : World} {G : HM → St → Prop} {k : Value → HM} {ρ : Env} {s : St} {w : World} {A : Tree Value} {o : Oper}
/-- What an operation's rule gives at the machine. -/
def OGoes (P : Program) (w0 : World) (G : HM → St → Prop) (k : Value → HM) (ρ : Env) (s : St) (fr : Frame) (w : World) : Prop :=
  ∃ V s' ρ' w', G (k V) s' ∧ Rel P w0 ρ' s' w' ∧ Ext s.next ρ ρ' ∧ s.next ≤ s'.next ∧ okV s'.next V ∧ ∀ cs, Steps P (lone fr cs w) (lone (fr.finish (den ρ' V)) cs w')
section
variable {fr : Frame} {ops : Array Oper} {i : Nat} {rest : List Nat} {K : List Item}
theorem Goes.at_ (hm : fr.mode = .run) (ht : fr.todo = .inRegion ops (i :: rest) :: K) (ho : ops[i]? = some o) (hw : Region.wanted o (yielded ops fr.tmps) = true) (hd : ∀ c, o.op ≠ .defer c)
    (h : Goes P w0 G k ρ s ((execOp fr.eval o).run P w)) : OGoes P w0 G k ρ s fr w := by
  obtain ⟨V, s', ρ', w', h1, h2, h3, h4, h5, h6⟩ := h
  refine ⟨V, s', ρ', w', h1, h2, h3, h4, h5, fun cs => ?_⟩
  rcases h6 with h6 | ⟨h6, rfl⟩
  · exact .one (step_value hm ht ho hw hd h6)
  · rw [den_undef]; exact .one (step_skip' hm ht ho hw hd h6)
theorem CGoes.at_ (hm : fr.mode = .run) (ht : fr.todo = .inRegion ops (i :: rest) :: K) (ho : ops[i]? = some o) (hw : Region.wanted o (yielded ops fr.tmps) = true) (hd : ∀ c, o.op ≠ .defer c)
    (h : CGoes P w0 G k ρ s w (execOp fr.eval o)) : OGoes P w0 G k ρ s fr w := by
  obtain ⟨V, s', ρ', w', h1, h2, h3, h4, h5, h6⟩ := h
  refine ⟨V, s', ρ', w', h1, h2, h3, h4, h5, fun cs => ?_⟩
  refine h6.steps (fun d x y z q h => by rw [ht] at h; cases h) fun g wn hg fr' cs' hg' => ?_
  subst hg'
  exact step_lone_go (by rw [stepG_oper hm ht ho hw hd]; exact hg)
theorem opA_some (R : Runner G) {RR : Rec} (HR : RecSnd P w0 RR) (hr : Rel P w0 ρ s w) (he : EvR P ρ s.next A fr.eval)
    (hm : fr.mode = .run) (ht : fr.todo = .inRegion ops (i :: rest) :: K) (ho : ops[i]? = some o) (hw : Region.wanted o (yielded ops fr.tmps) = true)
    (hg : G (opA P RR o.op A k) s) : OGoes P w0 G k ρ s fr w := by
  have hok : okOp P o.op = true := by
    cases h : okOp P o.op with
    | true => rfl
    | false => unfold opA at hg; rw [h] at hg; exact absurd hg R.fail
  have hg : G (opB P RR o.op A k) s := by unfold opA at hg; rw [hok] at hg; exact hg
  have no : ∀ {x : Prop}, G .fail s → x := fun h => absurd h R.fail
  cases hop : o.op with
  | move x =>
    rw [hop] at hg hok
    simp [okOp, Op.operands] at hok
    exact (s_move R hr he hok hop hg).at_ hm ht ho hw (by simp [hop])
  | assign x =>
    rw [hop] at hg hok
    simp [okOp, Op.operands] at hok
    exact (s_assign R hr he hok hop hg).at_ hm ht ho hw (by simp [hop])
  | pick c a b =>
    rw [hop] at hg hok
    simp [okOp, Op.operands] at hok
    exact (s_pick R hr he hok.1 hok.2.1 hok.2.2 hop hg).at_ hm ht ho hw (by simp [hop])
  | alloc t =>
    rw [hop] at hg hok
    exact (s_alloc (A := A) R hr hop hg).at_ hm ht ho hw (by simp [hop])
  | box t x =>
    rw [hop] at hg hok
    simp [okOp, Op.operands] at hok
    exact (s_box R hr he hok hop hg).at_ hm ht ho hw (by simp [hop])
  | build t ps =>
    rw [hop] at hg hok
    simp only [okOp, Op.operands, List.all_eq_true] at hok
    exact (s_build R hr he (fun p hp => hok p.2 (List.mem_map.2 ⟨p, hp, rfl⟩)) hop hg).at_ hm ht ho hw (by simp [hop])
  | buildSlice t l ps =>
    rw [hop] at hg hok
    simp only [okOp, Op.operands, List.all_eq_true] at hok
    exact (s_buildSlice R hr he (fun p hp => hok p.2 (List.mem_map.2 ⟨p, hp, rfl⟩)) hop hg).at_ hm ht ho hw (by simp [hop])
  | insert t m key x =>
    rw [hop] at hg hok
    simp [okOp, Op.operands] at hok
    exact (s_insert R hr he hok.1 hok.2.1 hok.2.2 hop hg).at_ hm ht ho hw (by simp [hop])
  | load t x =>
    rw [hop] at hg hok
    simp [okOp, Op.operands] at hok
    exact (s_load R hr he hok hop hg).at_ hm ht ho hw (by simp [hop])
  | store t x y =>
    rw [hop] at hg hok
    simp [okOp, Op.operands] at hok
    exact (s_store R hr he hok.1 hok.2 hop hg).at_ hm ht ho hw (by simp [hop])
  | ready g => rw [hop] at hg; exact no hg
  | waits g => rw [hop] at hg; exact no hg
  | nilCheck x =>
    rw [hop] at hg hok
    simp [okOp, Op.operands] at hok
    exact (s_nil R hr he hok hop hg).at_ hm ht ho hw (by simp [hop])
  | binOp op t x y u =>
    rw [hop] at hg hok
    simp [okOp, Op.operands] at hok
    exact (s_bin R hr he hok.1 hok.2 hop hg).at_ hm ht ho hw (by simp [hop])
  | unOp op t x =>
    rw [hop] at hg hok
    simp [okOp, Op.operands] at hok
    exact (s_un R hr he hok hop hg).at_ hm ht ho hw (by simp [hop])
  | convert a b x =>
    rw [hop] at hg hok
    simp [okOp, Op.operands] at hok
    exact (s_convert R hr he hok hop hg).at_ hm ht ho hw (by simp [hop])
  | sliceToArrayPointer a x => rw [hop] at hg; exact no hg
  | makeInterface t x =>
    rw [hop] at hg hok
    simp [okOp, Op.operands] at hok
    exact (s_iface R hr he hok hop hg).at_ hm ht ho hw (by simp [hop])
  | makeFunc fn fs cs =>
    rw [hop] at hg hok
    simp only [okOp, Op.operands, List.all_eq_true, Array.toList_append, List.mem_append] at hok
    exact (s_func R hr he (fun x hx => hok x (.inl hx)) (fun x hx => hok x (.inr hx)) hop hg).at_ hm ht ho hw (by simp [hop])
  | makeMap t r =>
    rw [hop] at hg hok
    exact (s_makeMap (A := A) R hr hop hg).at_ hm ht ho hw (by simp [hop])
  | makeChan t x => rw [hop] at hg; exact no hg
  | makeSlice t x y =>
    rw [hop] at hg hok
    simp [okOp, Op.operands] at hok
    exact (s_makeSlice R hr he hok.1 hok.2 hop hg).at_ hm ht ho hw (by simp [hop])
  | slice t x lo hi mx =>
    rw [hop] at hg hok
    simp only [okOp, Op.operands, List.all_eq_true, Array.toList_append, List.mem_append] at hok
    refine (s_slice R hr he (hok x (.inl (.inl (.inl (by simp))))) (fun y hy => ?_) (fun y hy => ?_) (fun y hy => ?_) hop hg).at_ hm ht ho hw (by simp [hop])
    · subst hy; exact hok y (.inl (.inl (.inr (by simp))))
    · subst hy; exact hok y (.inl (.inr (by simp)))
    · subst hy; exact hok y (.inr (by simp))
  | fieldAddr t x f =>
    rw [hop] at hg hok
    simp [okOp, Op.operands] at hok
    exact (s_fieldAddr R hr he hok hop hg).at_ hm ht ho hw (by simp [hop])
  | field t x f =>
    rw [hop] at hg hok
    simp [okOp, Op.operands] at hok
    exact (s_field R hr he hok hop hg).at_ hm ht ho hw (by simp [hop])
  | indexAddr t x y =>
    rw [hop] at hg hok
    simp [okOp, Op.operands] at hok
    exact (s_indexAddr R hr he hok.1 hok.2 hop hg).at_ hm ht ho hw (by simp [hop])
  | index t x y =>
    rw [hop] at hg hok
    simp [okOp, Op.operands] at hok
    exact (s_index R hr he hok.1 hok.2 hop hg).at_ hm ht ho hw (by simp [hop])
  | lookup t x y b =>
    rw [hop] at hg hok
    simp [okOp, Op.operands] at hok
    exact (s_lookup R hr he hok.1 hok.2 hop hg).at_ hm ht ho hw (by simp [hop])
  | mapUpdate t m key x =>
    rw [hop] at hg hok
    simp [okOp, Op.operands] at hok
    exact (s_mapUpdate R hr he hok.1 hok.2.1 hok.2.2 hop hg).at_ hm ht ho hw (by simp [hop])
  | mapEntry t m key => rw [hop] at hg; exact no hg
  | entryStore t m x y => rw [hop] at hg; exact no hg
  | range t x =>
    rw [hop] at hg hok
    simp [okOp, Op.operands] at hok
    exact (s_range R hr he hok hop hg).at_ hm ht ho hw (by simp [hop])
  | next x b =>
    rw [hop] at hg hok
    simp [okOp, Op.operands] at hok
    exact (s_next R hr he hok hop hg).at_ hm ht ho hw (by simp [hop])
  | entry x =>
    rw [hop] at hg hok
    simp [okOp, Op.operands] at hok
    exact (s_entry R hr he hok hop hg).at_ hm ht ho hw (by simp [hop])
  | typeAssert x a b c =>
    rw [hop] at hg hok
    simp [okOp, Op.operands] at hok
    exact (s_assert R hr he hok hop hg).at_ hm ht ho hw (by simp [hop])
  | extract x n =>
    rw [hop] at hg hok
    simp [okOp, Op.operands] at hok
    exact (s_extract R hr he hok hop hg).at_ hm ht ho hw (by simp [hop])
  | call c =>
    rw [hop] at hg hok
    simp only [okOp, Op.operands, Call.operands, List.all_eq_true, Array.toList_append, List.mem_append] at hok
    have hargs : ∀ x ∈ c.args.toList, okOpd P x = true := fun x hx => hok x (.inr hx)
    have hg : G (oCall P RR c A k) s := hg
    unfold oCall at hg
    obtain ⟨a1, a2⟩ := args_ev he hargs
    cases hc : c.callee with
    | builtin b =>
      rw [hc] at hg
      exact (s_builtin R hr he hargs hop hc hg).at_ hm ht ho hw (by simp [hop])
    | invoke recv name =>
      rw [hc] at hg
      have hrv : okOpd P recv = true := hok recv (.inl (by rw [hc]; simp))
      have h1 := invoke_some R HR hr (he.ok recv hrv) a2 hg
      refine CGoes.at_ hm ht ho hw (by simp [hop]) ?_
      have e1 : execOp fr.eval o = invoke (.fn (.method name) #[]) (#[den ρ (ev A recv)] ++ ⟨(c.args.toList.map (ev A)).map (den ρ)⟩) := by
        simp only [execOp, hop, resolve, hc, pure_bind, he.eq recv hrv]
        rw [a1]
      rw [e1]; exact h1
    | value f =>
      rw [hc] at hg
      have hfv : okOpd P f = true := hok f (.inl (by rw [hc]; simp))
      have h1 := callValue_some R HR hr (he.ok f hfv) a2 hg
      refine CGoes.at_ hm ht ho hw (by simp [hop]) ?_
      have e1 : execOp fr.eval o = (do let d ← Deferred.ofValue (den ρ (ev A f)) ⟨(c.args.toList.map (ev A)).map (den ρ)⟩; invoke d.target d.args) := by
        simp only [execOp, hop, resolve, hc, he.eq f hfv]
        rw [a1]
      rw [e1]; exact h1
  | go c => rw [hop] at hg; exact no hg
  | defer c => rw [hop] at hg; exact no hg
  | panic x => rw [hop] at hg; exact no hg
  | send a b => rw [hop] at hg; exact no hg
  | recv a b c => rw [hop] at hg; exact no hg
  | select a b => rw [hop] at hg; exact no hg
end
end Go.Ab
