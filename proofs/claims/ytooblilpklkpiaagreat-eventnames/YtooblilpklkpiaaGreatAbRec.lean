/- Frames stepped, calls and rounds carried out. -/
import Derived.Test.YtooblilpklkpiaaGreatAbFrame
set_option linter.unusedSimpArgs false
set_option linter.unusedVariables false
namespace Go.Ab
variable {P : Program} {w0 : World} {G : HM → St → Prop} {ρ : Env} {s : St} {w : World} {A : Tree Value} {RR : Rec}
def itD (ρ : Env) : Item → Item
  | .inRangeFunc l => .inRangeFunc (ρ l).b
  | .endRangeFunc l => .endRangeFunc (ρ l).b
  | .code c => .code c
  | .inBlock i => .inBlock i
  | .inLoop c => .inLoop c
  | .inScope c => .inScope c
  | .inRegion o t => .inRegion o t
  | .beginRound => .beginRound
  | .call d a b c => .call d a b c
  | .extern a b => .extern a b
def okIt (n : Nat) : Item → Prop
  | .inRangeFunc l => l < n
  | .endRangeFunc l => l < n
  | _ => True
def dfD (ρ : Env) (r : Nat) : Deferred := { target := .collected (ρ r).b, args := #[] }
structure okF (n : Nat) (C : Ctx) (todo : List Item) (ds : List Nat) : Prop where
  todo : ∀ it ∈ todo, okIt n it
  ds : ∀ d ∈ ds, d < n
  round : ∀ l, C.roundOf = some l → l < n
theorem okIt_mono {n m : Nat} (h : n ≤ m) {it : Item} (o : okIt n it) : okIt m it := by
  cases it <;> first | trivial | exact Nat.lt_of_lt_of_le o h
theorem okF.mono {n m : Nat} {C : Ctx} {todo : List Item} {ds : List Nat} (h : n ≤ m) (o : okF n C todo ds) : okF m C todo ds :=
  ⟨fun it hi => okIt_mono h (o.todo it hi), fun d hd => Nat.lt_of_lt_of_le (o.ds d hd) h, fun l hl => Nat.lt_of_lt_of_le (o.round l hl) h⟩
def frD (ρ : Env) (C : Ctx) (todo : List Item) (ds : List Nat) (tm : Array Value) : Frame :=
  { fn := C.fn, tmps := tm, todo := todo.map (itD ρ), defers := ds.map (dfD ρ), mode := .run, kind := .normal, roundOf := C.roundOf.map fun l => (ρ l).b }
theorem itD_ext {n : Nat} {ρ ρ' : Env} (h : Ext n ρ ρ') {it : Item} (o : okIt n it) : itD ρ' it = itD ρ it := by
  cases it <;> first | rfl | (rw [itD, itD, h _ o])
theorem frD_ext {n : Nat} {ρ ρ' : Env} (h : Ext n ρ ρ') {C : Ctx} {todo : List Item} {ds : List Nat} (o : okF n C todo ds) (tm : Array Value) : frD ρ' C todo ds tm = frD ρ C todo ds tm := by
  unfold frD
  have h1 : todo.map (itD ρ') = todo.map (itD ρ) := List.map_congr_left fun it hi => itD_ext h (o.todo it hi)
  have h2 : ds.map (dfD ρ') = ds.map (dfD ρ) := List.map_congr_left fun d hd => by unfold dfD; rw [h _ (o.ds d hd)]
  have h3 : (C.roundOf.map fun l => (ρ' l).b) = C.roundOf.map fun l => (ρ l).b := by
    cases hr : C.roundOf with
    | none => rfl
    | some l => simp [h _ (o.round l hr)]
  rw [h1, h2, h3]
def Outs (P : Program) : Bool → Frame → World → Value → World → Prop
  | false => Lvs P
  | true => Ret P
theorem Outs.of_steps {b : Bool} {fr fr' : Frame} {w w' w'' : World} {v : Value} (hfn : fr'.fn = fr.fn) (h : ∀ cs, Steps P (lone fr cs w) (lone fr' cs w')) (h' : Outs P b fr' w' v w'') : Outs P b fr w v w'' := by
  cases b with
  | false => exact fun cs => let ⟨f, h1, h2, h3⟩ := h' cs; ⟨f, (h cs).trans h1, h2.trans hfn, h3⟩
  | true => exact fun c cs => (h (c :: cs)).trans (h' c cs)
/-- What the rule of a piece of a frame gives. -/
def FGoes (P : Program) (w0 : World) (G : HM → St → Prop) (kc : Go1) (kr : Value → HM) (C : Ctx) (ρ : Env) (s : St) (fr : Frame) (w : World) : Prop :=
  (∃ A' todo' ds' s' ρ' tm' w', G (kc A' todo' ds') s' ∧ Rel P w0 ρ' s' w' ∧ Ext s.next ρ ρ' ∧ s.next ≤ s'.next ∧ TR ρ' s'.next C.n A' tm' ∧ okF s'.next C todo' ds' ∧ ∀ cs, Steps P (lone fr cs w) (lone (frD ρ' C todo' ds' tm') cs w')) ∨
  (∃ V s' ρ' w', G (kr V) s' ∧ Rel P w0 ρ' s' w' ∧ Ext s.next ρ ρ' ∧ s.next ≤ s'.next ∧ okV s'.next V ∧ Outs P C.roundOf.isSome fr w (den ρ' V) w')

/-! ### Leaving -/
theorem close_some (R : Runner G) {k : HM} : ∀ {ds : List Nat} {s : St} {w : World}, Rel P w0 ρ s w → G (closeDefers ds k) s →
    ∃ s' w', G k s' ∧ Rel P w0 ρ s' w' ∧ s'.next = s.next ∧ ∀ (fr : Frame) cs, fr.mode = .returning → fr.defers = ds.map (dfD ρ) → Steps P (lone fr cs w) (lone { fr with defers := [] } cs w')
  | [], s, w, hr, hg => ⟨s, w, hg, hr, rfl, fun fr cs _ hd => by
      have : ({ fr with defers := [] } : Frame) = fr := by
        cases fr; simp only at hd; subst hd; rfl
      rw [this]; exact .refl _ _⟩
  | r :: ds, s, w, hr, hg => by
    obtain ⟨x, hb, hg⟩ := R.gb hg
    cases x with
    | defd live =>
      cases live with
      | false => exact absurd hg R.fail
      | true =>
        obtain ⟨_, hg⟩ := R.sb hg
        have hbr : w.heap[(ρ r).b]? = some (.deferred (some [])) := hr.blk r _ hb
        have hrel := hr.obj_write (o' := .deferred none) (x' := .defd false) hb (by simp) (fun w' h => h)
        obtain ⟨s', w', h1, h2, h3, h4⟩ := close_some R hrel hg
        refine ⟨s', w', h1, h2, h3, fun fr cs hm hd => ?_⟩
        have htake : (Instr.takeDeferred (ρ r).b).run P w = .ok [] { w with heap := w.heap.setIfInBounds (ρ r).b (.deferred none) } := by
          simp only [Instr.takeDeferred, Sem.run_bind, run_getObj' hbr (by simp), Result.andThen_ok]
          rw [run_setObj' hbr (by simp)]
          rfl
        have hstep : step P (lone fr cs w) = .next (lone { fr with defers := ds.map (dfD ρ) } cs { w with heap := w.heap.setIfInBounds (ρ r).b (.deferred none) }) :=
          step_lone_go (by
            cases fr with
            | mk fn tmps todo defers mode kind roundOf =>
              simp only at hm hd
              subst hm hd
              simp [stepG, unwind, dfD, htake])
        exact .head hstep (by
          have := h4 { fr with defers := ds.map (dfD ρ) } cs hm rfl
          exact this)
    | _ => exact absurd hg R.fail
theorem loadVar_same (R : Runner G) (hr : Rel P w0 ρ s w) {k : Value → HM} {t : TypeId} {a : Addr} (ha : okAd s.next a) (hg : G (loadVarA P t a.block a.off k) s) :
    ∃ v, G (k v) s ∧ okV s.next v ∧ (loadVar t (addrD ρ a)).run P w = .ok (den ρ v) w := by
  unfold loadVarA at hg
  split at hg
  · rename_i n h1 h2
    obtain ⟨l, h3, h4, h5, h6⟩ := loadN_some R hr ha.2 hg
    refine ⟨_, h3, by rw [okV, okA]; exact h5, ?_⟩
    simp only [loadVar, Sem.run_bind, aggO_run h1, Result.andThen_ok, if_true, (szO_some h2).1, h6, Sem.run_pure]
    simp [den, denA_eq]
  · rename_i n h1 h2
    obtain ⟨e', m, c, hb, hg⟩ := cellsB_some R hg
    obtain ⟨v, hv, hg⟩ := retO_some R hg
    obtain ⟨c1, c2, c3, c4⟩ := hr.cell hb hv
    refine ⟨v, hg, c3, ?_⟩
    have hadr : addrD ρ a = ⟨(ρ a.block).b, (ρ a.block).base + a.off, none⟩ := by unfold addrD; rw [ha.2]
    simp only [loadVar, Sem.run_bind, aggO_run h1, Result.andThen_ok, Bool.false_eq_true, if_false, run_load, hadr, c1]
  · exact absurd hg R.fail
def resSem (tm : Array Value) : ResultVar → Sem Value
  | .tmp t => pure (tm.getD t undef)
  | .cell a t => do loadVar t (← asAddr (tm.getD a undef))
theorem results_some (R : Runner G) (hr : Rel P w0 ρ s w) {n : Nat} {tm : Array Value} (ht : TR ρ s.next n A tm) {kk : List Value → HM} : ∀ {rs : List ResultVar} {acc : List Value}, G (resultsA P A rs acc kk) s →
    ∃ vs, G (kk (acc ++ vs)) s ∧ okL s.next vs ∧ (rs.mapM (resSem tm)).run P w = .ok (vs.map (den ρ)) w
  | [], acc, hg => ⟨[], by rw [List.append_nil]; exact hg, by rw [okL]; trivial, rfl⟩
  | .tmp t :: rs, acc, hg => by
    obtain ⟨vs, h1, h2, h3⟩ := results_some R hr ht (rs := rs) hg
    refine ⟨at? A t :: vs, by unfold at?; simpa using h1, by rw [okL]; exact ⟨ht.ok t, h2⟩, ?_⟩
    rw [List.mapM_cons]
    simp only [resSem, Sem.run_bind, Sem.run_pure, Result.andThen_ok, h3, List.map_cons, ht.getD t]
  | .cell a t :: rs, acc, hg => by
    unfold resultsA at hg
    split at hg
    · rename_i ad had
      have hok := ht.ok a
      have had' : at? A a = .pointer (some ad) := had
      rw [had', okV] at hok
      obtain ⟨v, g1, g2, g3⟩ := loadVar_same R hr (hok ad rfl) hg
      obtain ⟨vs, h1, h2, h3⟩ := results_some R hr ht (rs := rs) g1
      refine ⟨v :: vs, by simpa using h1, by rw [okL]; exact ⟨g2, h2⟩, ?_⟩
      rw [List.mapM_cons]
      have hga := ht.getD a
      rw [had', den] at hga
      simp only [resSem, Sem.run_bind, hga, Option.map_some, asAddr, Sem.run_pure, Result.andThen_ok, g3, h3, List.map_cons]
    · exact absurd hg R.fail
theorem results_run {fn : Func} {tm : Array Value} {vs : List Value} (h : (fn.results.toList.mapM (resSem tm)).run P w = .ok (vs.map (den ρ)) w) : (results fn tm).run P w = .ok (den ρ (one? vs)) w := by
  have e : results fn tm = (do
      let vs ← fn.results.mapM (resSem tm)
      pure (if h : vs.size = 1 then vs[0] else .tuple vs)) := by
    unfold results
    congr 1
  rw [e, Array.mapM_eq_mapM_toList]
  simp only [Sem.run_bind, Sem.run_map, h, Result.andThen_ok, Sem.run_pure]
  congr 1
  cases vs with
  | nil => simp [one?, den, denA, denL]
  | cons v vs =>
    cases vs with
    | nil => simp [one?]
    | cons u vs => simp [one?, den, denA, denL, denL_eq]
theorem ok_one {n : Nat} {vs : List Value} (h : okL n vs) : okV n (one? vs) := by
  unfold one?
  split
  · rw [okL] at h; exact h.1
  · rw [okV, okA]; exact h
theorem leave_some (R : Runner G) (hr : Rel P w0 ρ s w) {C : Ctx} {todo : List Item} {ds : List Nat} {tm : Array Value} (ht : TR ρ s.next C.n A tm) (hok : okF s.next C todo ds) {jump : Option Code} {kc : Go1} {kr : Value → HM}
    (h1 : C.roundOf = none → (jump = none ∨ jump = some .ret) → ∀ cs, step P (lone (frD ρ C todo ds tm) cs w) = .next (lone { frD ρ C todo ds tm with mode := .returning } cs w))
    (h2 : ∀ l, C.roundOf = some l → ∀ c cs v w', (Instr.endRound (ρ l).b jump).run P w = .ok v w' → step P (lone (frD ρ C todo ds tm) (c :: cs) w) = .next (lone (c.finish v) cs w'))
    (hg : G (leaveA P C A ds jump kr) s) : FGoes P w0 G kc kr C ρ s (frD ρ C todo ds tm) w := by
  unfold leaveA at hg
  split at hg
  · rename_i hro
    have main : (jump = none ∨ jump = some .ret) → G (leaveRet P C A ds kr) s → FGoes P w0 G kc kr C ρ s (frD ρ C todo ds tm) w := by
      intro hj hg
      unfold leaveRet at hg
      obtain ⟨s', w', g1, g2, g3, g4⟩ := close_some R hr hg
      split at g1
      · rename_i fn hfn
        obtain ⟨vs, r1, r2, r3⟩ := results_some R g2 (by rw [g3]; exact ht) g1
        rw [List.nil_append] at r1
        refine .inr ⟨one? vs, s', ρ, w', r1, g2, Ext.refl _ _, by omega, ok_one r2, ?_⟩
        rw [hro]
        refine fun cs => ⟨{ frD ρ C todo ds tm with mode := .returning, defers := [] }, .head (h1 hro hj cs) (g4 { frD ρ C todo ds tm with mode := .returning } cs rfl rfl), rfl, rfl, rfl, rfl, fn, hfn, ?_⟩
        exact results_run r3
      · exact absurd g1 R.fail
    split at hg
    · exact main (.inl rfl) hg
    · exact main (.inr rfl) hg
    · exact absurd hg R.fail
  · rename_i l hro
    split at hg
    · obtain ⟨x, hb, hg⟩ := R.gb hg
      cases x with
      | loop r =>
        obtain ⟨_, hg⟩ := R.sb hg
        obtain ⟨b1, tm1, b2, b3⟩ := hr.blk l _ hb
        have hrel := hr.obj_write (o' := .loop { state := if jump.isNone then .ready else .done, pending := jump, fn := r.fn, tmps := tm1, params := ⟨r.params⟩, assign := r.assign, body := r.body, defers := (ρ r.defers).b })
          (x' := .loop { r with state := if jump.isNone then .ready else .done, pending := jump }) hb (by simp) (fun w' h => ⟨b1, tm1, b2, h⟩)
        refine .inr ⟨_, _, ρ, _, hg, hrel, Ext.refl _ _, Nat.le_refl _, by rw [okV]; trivial, ?_⟩
        rw [hro]
        refine fun c cs => .one (h2 l hro c cs _ _ ?_)
        simp only [Instr.endRound, Instr.getLoop, Sem.run_bind, run_getObj' b3 (by simp), Result.andThen_ok, Sem.run_pure]
        rw [run_setObj' b3 (by simp)]
        simp [den]
      | _ => exact absurd hg R.fail
    · exact absurd hg R.fail

/-! ### Jumps -/
theorem exitTo_map (ρ : Env) (id : Nat) : ∀ k : List Item, exitTo id (k.map (itD ρ)) = (exitTo id k).map fun t => t.map (itD ρ)
  | [] => rfl
  | it :: k => by
    cases it with
    | inBlock i =>
      rw [List.map_cons, itD, exitTo, exitTo]
      split
      · rfl
      · exact exitTo_map ρ id k
    | _ => exact exitTo_map ρ id k
theorem gotoIn_map (ρ : Env) (l : Nat) : ∀ k : List Item, gotoIn l (k.map (itD ρ)) = (gotoIn l k).map fun t => t.map (itD ρ)
  | [] => rfl
  | it :: k => by
    cases it with
    | inScope body =>
      rw [List.map_cons, itD, gotoIn, gotoIn]
      split
      · rfl
      · exact gotoIn_map ρ l k
    | _ => exact gotoIn_map ρ l k
theorem exitTo_ok {n : Nat} (id : Nat) : ∀ {k t : List Item}, exitTo id k = some t → (∀ it ∈ k, okIt n it) → ∀ it ∈ t, okIt n it
  | [], t, h, _ => by simp [exitTo] at h
  | it :: k, t, h, hk => by
    cases it with
    | inBlock i =>
      rw [exitTo] at h
      split at h
      · simp at h; subst h; exact fun it hi => hk it (List.mem_cons_of_mem _ hi)
      · exact exitTo_ok id h fun it hi => hk it (List.mem_cons_of_mem _ hi)
    | _ => exact exitTo_ok id (by simpa [exitTo] using h) fun it hi => hk it (List.mem_cons_of_mem _ hi)
theorem gotoIn_ok {n : Nat} (l : Nat) : ∀ {k t : List Item}, gotoIn l k = some t → (∀ it ∈ k, okIt n it) → ∀ it ∈ t, okIt n it
  | [], t, h, _ => by simp [gotoIn] at h
  | it :: k, t, h, hk => by
    cases it with
    | inScope body =>
      rw [gotoIn] at h
      split at h
      · simp at h; subst h
        intro it hi
        cases hi with
        | head => trivial
        | tail _ hi => cases hi with
          | head => trivial
          | tail _ hi => exact hk it (List.mem_cons_of_mem _ hi)
      · exact gotoIn_ok l h fun it hi => hk it (List.mem_cons_of_mem _ hi)
    | _ => exact gotoIn_ok l (by simpa [gotoIn] using h) fun it hi => hk it (List.mem_cons_of_mem _ hi)
end Go.Ab
