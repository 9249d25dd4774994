/- Steps of the machine by the abstract rules. -/
import Derived.Test.YtooblilpklkpiaaGreatAbOps9
set_option linter.unusedSimpArgs false
set_option linter.unusedVariables false
namespace Go.Ab
variable {P : Program} {w0 : World} {G : HM → St → Prop} {k : Value → HM} {ρ : Env} {s : St} {w : World} {A : Tree Value} {e : Operand → Value} {o : Oper}

section steps
variable {fr : Frame} {cs : List Frame} {ops : Array Oper} {i : Nat} {rest : List Nat} {K : List Item}
theorem stepG_oper (hm : fr.mode = .run) (ht : fr.todo = .inRegion ops (i :: rest) :: K) (ho : ops[i]? = some o) (hw : Region.wanted o (yielded ops fr.tmps) = true) (hd : ∀ c, o.op ≠ .defer c) :
    stepG P true { frame := fr, callers := cs, status := .running, dying := none } w = stepG.apply P true fr cs none (execOp fr.eval o) w := by
  cases fr with
  | mk fn tmps todo defers mode kind roundOf =>
    simp only at hm ht
    subst hm ht
    have hop : ∀ r : Option Nat, (match r, o.op with
        | some l, .defer c => stepG.apply P true ⟨fn, tmps, .inRegion ops (i :: rest) :: K, defers, .run, kind, roundOf⟩ cs none (do Instr.deferInRound l (← resolve (Frame.eval ⟨fn, tmps, .inRegion ops (i :: rest) :: K, defers, .run, kind, roundOf⟩) c o.type); pure .skip) w
        | _, _ => stepG.apply P true ⟨fn, tmps, .inRegion ops (i :: rest) :: K, defers, .run, kind, roundOf⟩ cs none (execOp (Frame.eval ⟨fn, tmps, .inRegion ops (i :: rest) :: K, defers, .run, kind, roundOf⟩) o) w) =
        stepG.apply P true ⟨fn, tmps, .inRegion ops (i :: rest) :: K, defers, .run, kind, roundOf⟩ cs none (execOp (Frame.eval ⟨fn, tmps, .inRegion ops (i :: rest) :: K, defers, .run, kind, roundOf⟩) o) w := by
      intro r
      cases r with
      | none => rfl
      | some l =>
        split
        · rename_i h; exact absurd h (hd _)
        · rfl
    simp [stepG, stepG.exec, stepG.oper, Frame.oper?, ho, hw]
    exact hop roundOf
theorem step_value (hm : fr.mode = .run) (ht : fr.todo = .inRegion ops (i :: rest) :: K) (ho : ops[i]? = some o) (hw : Region.wanted o (yielded ops fr.tmps) = true) (hd : ∀ c, o.op ≠ .defer c)
    {v : Value} {w' : World} (hr : (execOp fr.eval o).run P w = .ok (.value v) w') : step P (lone fr cs w) = .next (lone (fr.finish v) cs w') :=
  step_lone_go (by rw [stepG_oper hm ht ho hw hd]; simp [stepG.apply, hr])
theorem step_skip' (hm : fr.mode = .run) (ht : fr.todo = .inRegion ops (i :: rest) :: K) (ho : ops[i]? = some o) (hw : Region.wanted o (yielded ops fr.tmps) = true) (hd : ∀ c, o.op ≠ .defer c)
    {w' : World} (hr : (execOp fr.eval o).run P w = .ok .skip w') : step P (lone fr cs w) = .next (lone (fr.finish undef) cs w') :=
  step_lone_go (by rw [stepG_oper hm ht ho hw hd]; simp [stepG.apply, hr])
theorem apply_enter (ht : ∀ d x y z q, fr.todo ≠ .call d x y z :: q) {f : FuncId} {args : Array Value} {sem : Sem Next} {w' : World} (hr : sem.run P w = .ok (.enter f args) w') :
    (stepG.apply P true fr cs none sem w).bare = .go { frame := Frame.enter P f args .normal, callers := fr :: cs, status := .running, dying := none } w' := by
  have hk : (match fr.todo with | .call _ true _ _ :: _ => CallKind.wrapped | _ => .normal) = .normal := by
    split
    · rename_i h; exact absurd h (ht _ _ _ _ _)
    · rfl
  simp [stepG.apply, hr]
  exact congrArg (Frame.enter P f args) hk
theorem apply_round {l : Nat} {f : FuncId} {tm : Array Value} {as bd : Code} {sem : Sem Next} {w' : World} (hr : sem.run P w = .ok (.round l f tm as bd) w') :
    (stepG.apply P true fr cs none sem w).bare = .go { frame := Frame.round l f tm as bd .normal, callers := fr :: cs, status := .running, dying := none } w' := by
  simp [stepG.apply, hr]
end steps

/-- A frame that hands back a value to whoever called it. -/
def Ret (P : Program) (fr : Frame) (w : World) (v : Value) (w' : World) : Prop := ∀ c cs, Steps P (lone fr (c :: cs) w) (lone (c.finish v) cs w')
/-- A frame that comes to its end, with a value. -/
def Lvs (P : Program) (fr : Frame) (w : World) (v : Value) (w' : World) : Prop := ∀ cs, ∃ fr', Steps P (lone fr cs w) (lone fr' cs w') ∧ fr'.fn = fr.fn ∧ fr'.leaving P w' (.returned v)
theorem Lvs.ret {fr : Frame} {v : Value} {w' : World} (h : Lvs P fr w v w') : Ret P fr w v w' := fun c cs => by
  obtain ⟨fr', h1, _, h3⟩ := h (c :: cs)
  exact h1.trans (.one (step_leave_returned h3))
/-- What a call comes to. -/
def CallOut (P : Program) (sem : Sem Next) (w : World) (v : Value) (w' : World) : Prop :=
  (∃ f args, sem.run P w = .ok (.enter f args) w ∧ Lvs P (Frame.enter P f args .normal) w v w') ∨
  (∃ l f tm as bd, sem.run P w = .ok (.round l f tm as bd) w ∧ Ret P (Frame.round l f tm as bd .normal) w v w')
theorem CallOut.steps {sem : Sem Next} {v : Value} {w' : World} (h : CallOut P sem w v w') {fr : Frame} {cs : List Frame} (ht : ∀ d x y z q, fr.todo ≠ .call d x y z :: q)
    {m : Machine} (hm : ∀ g wn, (stepG.apply P true fr cs none sem w).bare = .go g wn → ∀ fr' cs', g = { frame := fr', callers := cs', status := .running, dying := none } → step P m = .next (lone fr' cs' wn)) :
    Steps P m (lone (fr.finish v) cs w') := by
  rcases h with ⟨f, args, h1, h2⟩ | ⟨l, f, tm, as, bd, h1, h2⟩
  · exact .head (hm _ _ (apply_enter ht h1) _ _ rfl) (h2.ret fr cs)
  · exact .head (hm _ _ (apply_round h1) _ _ rfl) (h2 fr cs)
structure RecSnd (P : Program) (w0 : World) (R : Rec) : Prop where
  call : ∀ {G : HM → St → Prop} {k : Value → HM} {ρ : Env} {s : St} {w : World} {f : FuncId} {fn : Func} {args : List Value}, Runner G → Rel P w0 ρ s w → P.funcs[f]? = some fn → okL s.next args → G (R.call f fn args k) s →
    ∃ V s' ρ' w', G (k V) s' ∧ Rel P w0 ρ' s' w' ∧ Ext s.next ρ ρ' ∧ s.next ≤ s'.next ∧ okV s'.next V ∧ Lvs P (Frame.enter P f ⟨args.map (den ρ)⟩ .normal) w (den ρ' V) w'
  round : ∀ {G : HM → St → Prop} {k : Value → HM} {ρ : Env} {s : St} {w : World} {l : Nat} {args : List Value}, Runner G → Rel P w0 ρ s w → l < s.next → okL s.next args → G (R.round l args k) s →
    ∃ f tm as bd, (Instr.yield (ρ l).b ⟨args.map (den ρ)⟩).run P w = .ok (.round (ρ l).b f tm as bd) w ∧
    ∃ V s' ρ' w', G (k V) s' ∧ Rel P w0 ρ' s' w' ∧ Ext s.next ρ ρ' ∧ s.next ≤ s'.next ∧ okV s'.next V ∧ Ret P (Frame.round (ρ l).b f tm as bd .normal) w (den ρ' V) w'
/-- What a call's rule gives. -/
def CGoes (P : Program) (w0 : World) (G : HM → St → Prop) (k : Value → HM) (ρ : Env) (s : St) (w : World) (sem : Sem Next) : Prop :=
  ∃ V s' ρ' w', G (k V) s' ∧ Rel P w0 ρ' s' w' ∧ Ext s.next ρ ρ' ∧ s.next ≤ s'.next ∧ okV s'.next V ∧ CallOut P sem w (den ρ' V) w'
theorem callFunc_some (R : Runner G) {RR : Rec} (HR : RecSnd P w0 RR) (hr : Rel P w0 ρ s w) {f : FuncId} {args : List Value} (ha : okL s.next args) (hg : G (callFuncA P RR f args k) s) :
    CGoes P w0 G k ρ s w (callFunc f ⟨args.map (den ρ)⟩) := by
  unfold callFuncA at hg
  split at hg
  · rename_i fn hf
    split at hg
    · exact absurd hg R.fail
    · rename_i hname
      split at hg
      · rename_i c hc
        obtain ⟨V, s', ρ', w', h1, h2, h3, h4, h5, h6⟩ := HR.call R hr hf ha hg
        refine ⟨V, s', ρ', w', h1, h2, h3, h4, h5, .inl ⟨f, _, ?_, h6⟩⟩
        have hn : (fn.name == "runtime.NumGoroutine") = false := by simpa using hname
        simp only [callFunc, Sem.run_bind, run_program, Result.andThen_ok, hf, hn, Bool.false_eq_true, if_false, hc, Option.isNone_some, Sem.run_pure]
      · exact absurd hg R.fail
  · exact absurd hg R.fail
theorem callValue_some (R : Runner G) {RR : Rec} (HR : RecSnd P w0 RR) (hr : Rel P w0 ρ s w) {f : Value} {args : List Value} (hf : okV s.next f) (ha : okL s.next args) (hg : G (callValueA P RR f args k) s) :
    CGoes P w0 G k ρ s w (do let d ← Deferred.ofValue (den ρ f) ⟨args.map (den ρ)⟩; invoke d.target d.args) := by
  unfold callValueA at hg
  split at hg
  · rename_i f fs cs
    rw [okV] at hf
    have hok : okL s.next (fs.toList ++ args ++ cs.toList) := (okL_iff _ _).2 fun v hv => by
      rcases List.mem_append.1 hv with h | h
      · rcases List.mem_append.1 h with h | h
        · exact (okA_iff _ _).1 hf.2.1 v h
        · exact (okL_iff _ _).1 ha v h
      · exact (okA_iff _ _).1 hf.2.2 v h
    have := callFunc_some R HR hr hok hg
    have e1 : (do let d ← Deferred.ofValue (den ρ (.func (.func f) fs cs)) ⟨args.map (den ρ)⟩; invoke d.target d.args : Sem Next) = callFunc f ⟨(fs.toList ++ args ++ cs.toList).map (den ρ)⟩ := by
      rw [den, denA_eq, denA_eq]
      simp only [Deferred.ofValue, fnD, pure_bind, invoke]
      congr 1
      apply Array.ext'
      simp
    rw [e1]; exact this
  · rename_i l fs cs
    rw [okV] at hf
    have hok : okL s.next (fs.toList ++ args) := (okL_iff _ _).2 fun v hv => by
      rcases List.mem_append.1 hv with h | h
      · exact (okA_iff _ _).1 hf.2.1 v h
      · exact (okL_iff _ _).1 ha v h
    obtain ⟨f, tm, as, bd, h0, V, s', ρ', w', h1, h2, h3, h4, h5, h6⟩ := HR.round R hr hf.1 hok hg
    refine ⟨V, s', ρ', w', h1, h2, h3, h4, h5, .inr ⟨_, f, tm, as, bd, ?_, h6⟩⟩
    have e1 : (do let d ← Deferred.ofValue (den ρ (.func (.yield l) fs cs)) ⟨args.map (den ρ)⟩; invoke d.target d.args : Sem Next) = Instr.yield (ρ l).b ⟨(fs.toList ++ args).map (den ρ)⟩ := by
      rw [den, denA_eq, denA_eq]
      simp only [Deferred.ofValue, fnD, pure_bind, invoke]
      congr 1
      apply Array.ext'
      simp
    rw [e1]; exact h0
  · exact absurd hg R.fail
theorem invoke_some (R : Runner G) {RR : Rec} (HR : RecSnd P w0 RR) (hr : Rel P w0 ρ s w) {recv : Value} {name : String} {args : List Value} (hf : okV s.next recv) (ha : okL s.next args) (hg : G (invokeA P RR recv name args k) s) :
    CGoes P w0 G k ρ s w (invoke (.fn (.method name) #[]) (#[den ρ recv] ++ ⟨args.map (den ρ)⟩)) := by
  unfold invokeA at hg
  split at hg
  · rename_i t v
    rw [okV] at hf
    split at hg
    · rename_i i hi
      split at hg
      · rename_i m hm
        split at hg
        · exact absurd hg R.fail
        · rename_i hpath
          have hti : ∀ w, (typeInfo t).run P w = .ok i w := fun w => by simp [typeInfo, hi]
          have hm' : i.methods.find? (fun x => x.name == name) = some m := by rw [← Array.find?_toList]; exact hm
          have hp : m.path.toList = [] := by
            have : m.path.isEmpty = true := by simpa using hpath
            simpa [Array.isEmpty_iff] using this
          have hp' : m.path.isEmpty = true := by simpa using hpath
          have e0 : (#[den ρ (.iface t v)] ++ (⟨args.map (den ρ)⟩ : Array Value))[0]? = some (.iface t (den ρ v)) := by rw [den]; simp
          have e1 : (#[den ρ (.iface t v)] ++ (⟨args.map (den ρ)⟩ : Array Value)).extract 1 (#[den ρ (.iface t v)] ++ (⟨args.map (den ρ)⟩ : Array Value)).size = ⟨args.map (den ρ)⟩ := by
            apply Array.ext'; simp
            exact List.take_of_length_le (by simp)
          have e2 : (#[den ρ v] ++ (⟨args.map (den ρ)⟩ : Array Value)) = ⟨(v :: args).map (den ρ)⟩ := by apply Array.ext'; simp
          have hok : okL s.next (v :: args) := by rw [okL]; exact ⟨hf, ha⟩
          have hmeth : ∀ f ptr, m.func = some (f, ptr) → (∀ w, (receiverAt t (.val (den ρ v)) ptr (some ((name.splitOn ".").getLastD name))).run P w = .ok (den ρ v) w) →
              G (callFuncA P RR f (v :: args) k) s → CGoes P w0 G k ρ s w (invoke (.fn (.method name) #[]) (#[den ρ (.iface t v)] ++ ⟨args.map (den ρ)⟩)) := by
            intro f ptr hfn hrecv hg
            obtain ⟨V, s', ρ', w', h1, h2, h3, h4, h5, h6⟩ := callFunc_some R HR hr hok hg
            have hmrun : ∀ n, (method (n + 1) t (den ρ v) name).run P w = .ok (f, den ρ v) w := fun n => by
              simp only [method, Sem.run_bind, hti, Result.andThen_ok, hm', hp, follow, Sem.run_pure, hfn, hp', if_true, hrecv]
            have hd : ∃ n, P.types.size + Made.depth = n + 1 := ⟨P.types.size + Made.depth - 1, by simp [Made.depth]⟩
            obtain ⟨n, hd⟩ := hd
            have hrun : (invoke (.fn (.method name) #[]) (#[den ρ (.iface t v)] ++ ⟨args.map (den ρ)⟩)).run P w = (callFunc f ⟨(v :: args).map (den ρ)⟩).run P w := by
              simp only [invoke, e0, e1, callMethod, Sem.run_bind, run_program, Result.andThen_ok, hd, hmrun, e2]
            refine ⟨V, s', ρ', w', h1, h2, h3, h4, h5, ?_⟩
            rcases h6 with ⟨f', args', g1, g2⟩ | ⟨l, f', tm, as, bd, g1, g2⟩
            · exact .inl ⟨f', args', hrun.trans g1, g2⟩
            · exact .inr ⟨l, f', tm, as, bd, hrun.trans g1, g2⟩
          split at hg
          · rename_i f el hfn hu
            have hu' := under_some hu (by simp)
            exact hmeth f true hfn (fun w => by simp [receiverAt, run_underlying hu', Place.get]) hg
          · exact absurd hg R.fail
          · exact absurd hg R.fail
          · rename_i f hfn n1 n2
            have hu' := under_some (P := P) (t := t) rfl n2
            refine hmeth f false hfn (fun w => ?_) hg
            simp only [receiverAt, Sem.run_bind, run_underlying hu', Result.andThen_ok]
            generalize under P t = d at *
            cases d <;> first | exact absurd rfl n2 | exact (n1 _ rfl).elim | simp [Place.get]
          · exact absurd hg R.fail
      · exact absurd hg R.fail
    · exact absurd hg R.fail
  · exact absurd hg R.fail
end Go.Ab
