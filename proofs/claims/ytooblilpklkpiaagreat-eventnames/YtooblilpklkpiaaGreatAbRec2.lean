/- Frames stepped, calls and rounds carried out: the rest. -/
import Derived.Test.YtooblilpklkpiaaGreatAbRec
set_option linter.unusedSimpArgs false
set_option linter.unusedVariables false
namespace Go.Ab
variable {P : Program} {w0 : World} {G : HM → St → Prop} {ρ : Env} {s : St} {w : World} {A : Tree Value} {RR : Rec}
/-- One silent step. -/
theorem silent (hr : Rel P w0 ρ s w) {C : Ctx} {todo todo' : List Item} {ds : List Nat} {tm : Array Value} (ht : TR ρ s.next C.n A tm) (hok : okF s.next C todo ds) (hok' : ∀ it ∈ todo', okIt s.next it) {kc : Go1} {kr : Value → HM}
    (h : ∀ cs, step P (lone (frD ρ C todo ds tm) cs w) = .next (lone { frD ρ C todo ds tm with todo := todo'.map (itD ρ) } cs w)) (hg : G (kc A todo' ds) s) : FGoes P w0 G kc kr C ρ s (frD ρ C todo ds tm) w :=
  .inl ⟨A, todo', ds, s, ρ, tm, w, hg, hr, Ext.refl _ _, Nat.le_refl _, ht, ⟨hok', hok.ds, hok.round⟩, fun cs => .one (h cs)⟩
theorem frD_ret {C : Ctx} {ds : List Nat} {tm : Array Value} {todo : List Item} (hro : C.roundOf = none) (cs : List Frame) (h : todo = [] ∨ ∃ k, todo = .code .ret :: k) :
    step P (lone (frD ρ C todo ds tm) cs w) = .next (lone { frD ρ C todo ds tm with mode := .returning } cs w) :=
  step_lone_go (by
    rcases h with rfl | ⟨k, rfl⟩
    · simp [stepG, stepG.exec, frD, hro]
    · simp [stepG, stepG.exec, frD, hro, itD])
theorem doReturn_normal {fr c : Frame} {cs : List Frame} {v : Value} (h : fr.kind = .normal) : doReturn P true fr (c :: cs) none v w = .go { frame := c.finish v, callers := cs, status := .running, dying := none } w := by
  simp [doReturn, h]
theorem frD_round {C : Ctx} {ds : List Nat} {tm : Array Value} {todo : List Item} {l : Nat} (hro : C.roundOf = some l) {jump : Option Code} (c : Frame) (cs : List Frame) {v : Value} {w' : World} (hrun : (Instr.endRound (ρ l).b jump).run P w = .ok v w')
    (h : (todo = [] ∧ jump = none) ∨ (∃ k, todo = .code .ret :: k ∧ jump = some .ret) ∨ (∃ k id, todo = .code (.exit id) :: k ∧ exitTo id k = none ∧ jump = some (.exit id)) ∨ (∃ k id, todo = .code (.goto id) :: k ∧ gotoIn id k = none ∧ jump = some (.goto id))) :
    step P (lone (frD ρ C todo ds tm) (c :: cs) w) = .next (lone (c.finish v) cs w') :=
  step_lone_go (by
    rcases h with ⟨rfl, rfl⟩ | ⟨k, rfl, rfl⟩ | ⟨k, id, rfl, h, rfl⟩ | ⟨k, id, rfl, h, rfl⟩
    · simp [stepG, stepG.exec, frD, hro, hrun, doReturn]
    · simp [stepG, stepG.exec, frD, hro, hrun, doReturn, itD]
    · have := exitTo_map ρ id k
      rw [h, Option.map_none] at this
      simp [stepG, stepG.exec, frD, hro, hrun, doReturn, itD, this]
    · have := gotoIn_map ρ id k
      rw [h, Option.map_none] at this
      simp [stepG, stepG.exec, frD, hro, hrun, doReturn, itD, this])
theorem list_rec {α β : Type} (l : List α) (a : β) (b : α → List α → β) : (List.rec (motive := fun _ => β) a (fun x xs _ => b x xs) l : β) = match l with | [] => a | x :: xs => b x xs := by cases l <;> rfl
/-- What a call in a frame comes to: the frame's item is done. -/
theorem range_some (R : Runner G) (HR : RecSnd P w0 RR) (hr : Rel P w0 ρ s w) {C : Ctx} {k : List Item} {ds : List Nat} {tm : Array Value} {f : Operand} {params : Array Tmp} {assign body : Code} (ht : TR ρ s.next C.n A tm) (hok : okF s.next C (.code (.rangeFunc f params assign body) :: k) ds) {kc : Go1} {kr : Value → HM}
    (hg : G (sRange P RR C f params assign body A ds k kc kr) s) : FGoes P w0 G kc kr C ρ s (frD ρ C (.code (.rangeFunc f params assign body) :: k) ds tm) w := by
  unfold sRange at hg
  have hfo : okOpd P f = true := by
    cases h : okOpd P f with
    | true => rfl
    | false => rw [h] at hg; exact absurd hg R.fail
  rw [hfo] at hg
  simp only at hg
  have hev := evR (fr := frD ρ C (.code (.rangeFunc f params assign body) :: k) ds tm) hr ht
  have hfe := hev.eq f hfo
  have hfk := hev.ok f hfo
  -- the call, from a frame that has laid its loop
  have main : ∀ (s1 : St) (ρ1 : Env) (w1 : World) (l : Nat) (ds1 : List Nat) (mark : List Deferred), Rel P w0 ρ1 s1 w1 → Ext s.next ρ ρ1 → s.next ≤ s1.next → l < s1.next → (∀ d ∈ ds1, d < s1.next) →
      (Instr.enterLoop C.fn tm params assign body (C.roundOf.map fun l => (ρ l).b)).run P w = .ok ((ρ1 l).b, mark) w1 → mark ++ ds.map (dfD ρ) = ds1.map (dfD ρ1) →
      G (callValueA P RR (ev A f) [.func (.yield l) #[] #[]] fun _ => kc A (.endRangeFunc l :: k) ds1) s1 → FGoes P w0 G kc kr C ρ s (frD ρ C (.code (.rangeFunc f params assign body) :: k) ds tm) w := by
    intro s1 ρ1 w1 l ds1 mark hr1 he1 hn1 hl hds1 hrun hmark hg
    have hyl : okL s1.next [Value.func (.yield l) #[] #[]] := by simp [okL, okV, okFn, okA, hl]
    obtain ⟨V, s2, ρ2, w2, g1, g2, g3, g4, g5, g6⟩ := callValue_some R HR hr1 (okV_mono hn1 hfk) hyl hg
    have hden : den ρ1 (ev A f) = den ρ (ev A f) := den_ext he1 hfk
    refine .inl ⟨A, .endRangeFunc l :: k, ds1, s2, ρ2, tm, w2, g1, g2, he1.trans g3 hn1, Nat.le_trans hn1 g4, ht.mono (he1.trans g3 hn1) (Nat.le_trans hn1 g4), ⟨fun it hi => ?_, fun d hd => Nat.lt_of_lt_of_le (hds1 d hd) g4, fun l' hl' => Nat.lt_of_lt_of_le (hok.round l' hl') (Nat.le_trans hn1 g4)⟩, fun cs => ?_⟩
    · cases hi with
      | head => exact Nat.lt_of_lt_of_le hl g4
      | tail _ hi => exact okIt_mono (Nat.le_trans hn1 g4) (hok.todo it (List.mem_cons_of_mem _ hi))
    · have hcall : ∀ fr : Frame, (do let d ← resolve (frD ρ C (.code (.rangeFunc f params assign body) :: k) ds tm).eval { callee := .value f, args := #[.const (.func (.yield (ρ1 l).b) #[] #[])], argTypes := #[] } 0; invoke d.target d.args : Sem Next) =
          (do let d ← Deferred.ofValue (den ρ1 (ev A f)) ⟨[Value.func (.yield l) #[] #[]].map (den ρ1)⟩; invoke d.target d.args) := fun _ => by
        simp only [resolve, hden]
        rw [← hfe]
        simp [den, denA, denL, fnD, Frame.eval]
      have hst := g6.steps (fr := { frD ρ C (.code (.rangeFunc f params assign body) :: k) ds tm with todo := .inRangeFunc (ρ1 l).b :: k.map (itD ρ), defers := ds1.map (dfD ρ1) }) (cs := cs) (fun d x y z q h => by simp at h)
        (m := lone (frD ρ C (.code (.rangeFunc f params assign body) :: k) ds tm) cs w) (fun g wn hgo fr' cs' hg' => by
          subst hg'
          refine step_lone_go ?_
          rw [← hcall (frD ρ C (.code (.rangeFunc f params assign body) :: k) ds tm)] at hgo
          rw [← hmark] at hgo
          rw [← hgo]
          simp [stepG, stepG.exec, frD, itD, hrun]
          rfl)
      have hfin : ({ frD ρ C (.code (.rangeFunc f params assign body) :: k) ds tm with todo := .inRangeFunc (ρ1 l).b :: k.map (itD ρ), defers := ds1.map (dfD ρ1) } : Frame).finish (den ρ2 V) = frD ρ2 C (.endRangeFunc l :: k) ds1 tm := by
        unfold Frame.finish frD
        have e1 : (k.map (itD ρ)) = k.map (itD ρ2) := (List.map_congr_left fun it hi => itD_ext (he1.trans g3 hn1) (hok.todo it (List.mem_cons_of_mem _ hi))).symm
        have e2 : ds1.map (dfD ρ1) = ds1.map (dfD ρ2) := (List.map_congr_left fun d hd => by unfold dfD; rw [g3 d (hds1 d hd)]).symm
        have e3 : (C.roundOf.map fun l => (ρ l).b) = C.roundOf.map fun l => (ρ2 l).b := by
          cases hro : C.roundOf with
          | none => rfl
          | some l' => simp only [Option.map_some]; rw [(he1.trans g3 hn1) l' (hok.round l' hro)]
        simp only [List.map_cons, itD, e1, e2, e3, g3 l hl]
      rw [hfin] at hst
      exact hst
  split at hg
  · rename_i l0 hro
    obtain ⟨x, hb, hg⟩ := R.gb hg
    cases x with
    | loop r =>
      have hg := R.mk_ hg
      obtain ⟨b1, tm1, b2, b3⟩ := hr.blk l0 _ hb
      obtain ⟨n1, n2⟩ := hr.new (L := ⟨w.heap.size, 0, 0, 0⟩) (o := .loop { state := .ready, pending := none, fn := C.fn, tmps := tm, params, assign, body, defers := (ρ r.defers).b })
        (x := .loop { state := .ready, pending := none, fn := C.fn, n := C.n, tmps := A, params := params.toList, assign, body, defers := r.defers }) rfl (fun w' hw' => by
          refine ⟨Nat.lt_succ_of_lt b1, tm, ht.mono (ext_envN _ _ _) (Nat.le_succ _), ?_⟩
          rw [ext_envN _ _ _ _ b1]; exact hw')
      refine main _ _ _ s.next ds [] n1 n2 (Nat.le_succ _) (Nat.lt_succ_self _) (fun d hd => Nat.lt_succ_of_lt (hok.ds d hd)) ?_ ?_ hg
      · rw [envN_self, hro]
        simp only [Instr.enterLoop, Option.map_some, Instr.getLoop, Sem.run_bind, run_getObj' b3 (by simp), Result.andThen_ok, Sem.run_pure]
        simp
      · rw [List.nil_append]
        exact (List.map_congr_left fun d hd => by unfold dfD; rw [n2 d (hok.ds d hd)]).symm
    | _ => exact absurd hg R.fail
  · rename_i hro
    have hg := R.mk_ hg
    obtain ⟨n1, n2⟩ := hr.new (L := ⟨w.heap.size, 0, 0, 0⟩) (o := .deferred (some [])) (x := .defd true) rfl (fun w' hw' => hw')
    have ht1 := ht.mono n2 (Nat.le_succ s.next)
    have hg := R.mk_ hg
    obtain ⟨m1, m2⟩ := n1.new (L := ⟨w.heap.size + 1, 0, 0, 0⟩) (o := .loop { state := .ready, pending := none, fn := C.fn, tmps := tm, params, assign, body, defers := w.heap.size })
      (x := .loop { state := .ready, pending := none, fn := C.fn, n := C.n, tmps := A, params := params.toList, assign, body, defers := s.next }) (by simp) (fun w' hw' => by
        refine ⟨by simp [St.put]; omega, tm, (ht1.mono (ext_envN _ _ _) (Nat.le_succ _)), ?_⟩
        have : envN (envN ρ s.next ⟨w.heap.size, 0, 0, 0⟩) (s.put (.defd true)).next ⟨w.heap.size + 1, 0, 0, 0⟩ s.next = ⟨w.heap.size, 0, 0, 0⟩ := by
          rw [ext_envN _ _ _ s.next (by simp [St.put]), envN_self]
        simp only
        rw [this]; exact hw')
    refine main _ _ _ (s.put (.defd true)).next (s.next :: ds) [{ target := .collected w.heap.size, args := #[] }] m1 (n2.trans m2 (Nat.le_succ _)) (by simp [St.put]; omega) (Nat.lt_succ_self _) (fun d hd => ?_) ?_ ?_ hg
    · cases hd with
      | head => simp [St.put]; omega
      | tail _ hd => have := hok.ds d hd; simp [St.put]; omega
    · rw [envN_self, hro]
      simp only [Instr.enterLoop, Option.map_none, Sem.run_bind, run_newObj, Result.andThen_ok, Sem.run_pure]
      simp
    · have e0 : envN (envN ρ s.next ⟨w.heap.size, 0, 0, 0⟩) (s.put (.defd true)).next ⟨w.heap.size + 1, 0, 0, 0⟩ s.next = ⟨w.heap.size, 0, 0, 0⟩ := by
        rw [ext_envN _ _ _ s.next (by simp [St.put]), envN_self]
      rw [List.map_cons, List.singleton_append]
      congr 1
      · unfold dfD; rw [e0]
      · exact (List.map_congr_left fun d hd => by unfold dfD; rw [(n2.trans m2 (Nat.le_succ _)) d (hok.ds d hd)]).symm
end Go.Ab
