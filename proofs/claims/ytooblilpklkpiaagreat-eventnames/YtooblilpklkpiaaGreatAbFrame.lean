/- Frames: regions carried out, results handed back. -/
import Derived.Test.YtooblilpklkpiaaGreatAbDraw2
set_option linter.unusedSimpArgs false
set_option linter.unusedVariables false
namespace Go.Ab
variable {P : Program} {w0 : World} {G : HM → St → Prop} {k : Value → HM} {ρ : Env} {s : St} {w : World} {A : Tree Value} {o : Oper} {RR : Rec} {n : Nat}
theorem evR {fr : Frame} (hr : Rel P w0 ρ s w) (ht : TR ρ s.next n A fr.tmps) : EvR P ρ s.next A fr.eval where
  eq := fun x hx => by
    cases x with
    | tmp t => exact ht.getD t
    | const v => exact (plain_den s.next ρ hx).1.symm
    | global g =>
      have hx' : Nat.blt g P.globals.size = true := hx
      rw [Nat.blt_eq] at hx'
      obtain ⟨h1, h2⟩ := hr.globs g hx'
      show Value.pointer (some ⟨g, 0, none⟩) = den ρ (.pointer (some ⟨g, 0, none⟩))
      rw [den]
      simp [addrD, h1, h2]
    | func f => show Value.func (.func f) #[] #[] = den ρ (.func (.func f) #[] #[]); simp [den, denA, denL, fnD]
  ok := fun x hx => by
    cases x with
    | tmp t => exact ht.ok t
    | const v => exact (plain_den s.next ρ hx).2
    | global g =>
      have hx' : Nat.blt g P.globals.size = true := hx
      rw [Nat.blt_eq] at hx'
      show okV s.next (.pointer (some ⟨g, 0, none⟩))
      rw [okV]
      intro y hy; simp at hy; subst hy
      exact ⟨Nat.lt_of_lt_of_le hx' hr.glob, rfl⟩
    | func f => show okV s.next (.func (.func f) #[] #[]); simp [okV, okFn, okA, okL]
theorem bool_den {v : Value} {b : Bool} : den ρ v = .bool b ↔ v = .bool b := by
  constructor
  · intro h
    cases v with
    | slice a l c => cases a <;> simp [den] at h
    | bool c => rw [den] at h; exact h
    | _ => simp [den] at h
  · rintro rfl; rw [den]
theorem slot_eq {tm : Array Value} {nx : Nat} (ht : TR ρ nx n A tm) (t : Nat) :
    (match tm[t]? with | some (.bool b) => some b | _ => none) = (match A.get t with | some (.bool b) => some b | _ => none) := by
  by_cases hlt : t < n
  · rw [ht.at_ t hlt]
    unfold at?
    cases hA : A.get t with
    | none => rw [Option.getD_none, den_undef]; rfl
    | some v =>
      simp only [Option.getD_some]
      cases hv : den ρ v with
      | bool b =>
        have := (bool_den).1 hv
        subst this; rfl
      | _ =>
        have hne : ∀ b, v ≠ .bool b := fun b hb => by subst hb; rw [den] at hv; simp at hv
        cases v <;> first | rfl | exact absurd rfl (hne _)
  · have h1 : tm[t]? = none := by
      rw [Array.getElem?_eq_none]
      have := ht.size
      omega
    rw [h1, ht.out t (by omega)]
theorem wanted_eq {ops : Array Oper} {tm : Array Value} {nx : Nat} (ht : TR ρ nx n A tm) (o : Oper) : Region.wanted o (yielded ops tm) = wantedA ops.toList A o := by
  unfold Region.wanted wantedA
  cases hg : o.guard with
  | none => rfl
  | some g =>
    obtain ⟨j, want⟩ := g
    simp only
    have key : yielded ops tm j = yes? A ops.toList j := by
      unfold yielded yes?
      have e : (ops.toList[j]?).bind (·.dst) = (ops[j]?).bind (·.dst) := by simp
      rw [e]
      cases (ops[j]?).bind (·.dst) with
      | none => rfl
      | some t =>
        simp only [Option.bind_some]
        exact slot_eq ht t
    rw [key]
    cases yes? A ops.toList j with
    | none => rfl
    | some b => cases b <;> cases want <;> rfl
section region
variable {fr : Frame} {ops : Array Oper} {K : List Item}
def atR (fr : Frame) (ops : Array Oper) (l : List Nat) (K : List Item) (tm : Array Value) : Frame := { fr with tmps := tm, todo := .inRegion ops l :: K }
theorem finish_atR (o : Oper) {j : Nat} {l : List Nat} {tm : Array Value} (ho : ops[j]? = some o) (v : Value) : (atR fr ops (j :: l) K tm).finish v = atR fr ops l K (putT tm o.dst v) := by
  unfold atR Frame.finish putT
  simp only [ho, Option.bind_some]
  cases o.dst <;> rfl
theorem step_unwanted {j : Nat} {l : List Nat} {tm : Array Value} {cs : List Frame} (hm : fr.mode = .run) (h : ((ops[j]?).map (Region.wanted · (yielded ops tm))).getD false = false) :
    step P (lone (atR fr ops (j :: l) K tm) cs w) = .next (lone ((atR fr ops (j :: l) K tm).finish undef) cs w) :=
  step_lone_go (by
    cases fr with
    | mk fn tmps todo defers mode kind roundOf =>
      simp only at hm
      subst hm
      simp [stepG, stepG.exec, atR, h])
theorem region_end {tm : Array Value} {cs : List Frame} (hm : fr.mode = .run) : step P (lone (atR fr ops [] K tm) cs w) = .next (lone { fr with tmps := tm, todo := K } cs w) :=
  step_lone_go (by
    cases fr with
    | mk fn tmps todo defers mode kind roundOf =>
      simp only at hm
      subst hm
      simp [stepG, stepG.exec, atR])
theorem RunC.steps (HR : RecSnd P w0 RR) (hm : fr.mode = .run) : ∀ {l : List Nat} {A A' : Tree Value} {s s' : St} {ls : List (Nat × Log)} {ρ : Env} {tm : Array Value} {w : World},
    RunC P RR n ops.toList l (A, s) ls (A', s') → Rel P w0 ρ s w → TR ρ s.next n A tm →
    ∃ ρ' tm' w', Rel P w0 ρ' s' w' ∧ Ext s.next ρ ρ' ∧ s.next ≤ s'.next ∧ TR ρ' s'.next n A' tm' ∧ ∀ cs, Steps P (lone (atR fr ops l K tm) cs w) (lone (atR fr ops [] K tm') cs w')
  | [], A, A', s, s', ls, ρ, tm, w, h, hr, ht => by
    obtain ⟨_, h⟩ := h
    simp only [Prod.mk.injEq] at h
    obtain ⟨rfl, rfl⟩ := h
    exact ⟨ρ, tm, w, hr, Ext.refl _ _, Nat.le_refl _, ht, fun cs => .refl _ _⟩
  | j :: l, A, A', s, s', ls, ρ, tm, w, h, hr, ht => by
    obtain ⟨⟨A1, s1⟩, L, ls', h1, h2, h3⟩ := h
    have main : ∃ ρ1 tm1 w1, Rel P w0 ρ1 s1 w1 ∧ Ext s.next ρ ρ1 ∧ s.next ≤ s1.next ∧ TR ρ1 s1.next n A1 tm1 ∧ ∀ cs, Steps P (lone (atR fr ops (j :: l) K tm) cs w) (lone (atR fr ops l K tm1) cs w1) := by
      unfold oneX at h1
      cases ho : ops[j]? with
      | none =>
        have ho' : ops.toList[j]? = none := by simpa using ho
        simp only [ho', Option.some.injEq, Prod.mk.injEq] at h1
        obtain ⟨⟨rfl, rfl⟩, rfl⟩ := h1
        refine ⟨ρ, tm, w, hr, Ext.refl _ _, Nat.le_refl _, ht, fun cs => ?_⟩
        have := step_unwanted (P := P) (w := w) (fr := fr) (ops := ops) (K := K) (j := j) (l := l) (tm := tm) (cs := cs) hm (by simp [ho])
        have e : (atR fr ops (j :: l) K tm).finish undef = atR fr ops l K tm := by unfold atR Frame.finish; simp only [ho, Option.bind_none]
        rw [e] at this
        exact .one this
      | some o =>
        have ho' : ops.toList[j]? = some o := by simpa using ho
        simp only [ho'] at h1
        have hweq := wanted_eq (ops := ops) ht o
        cases hw : wantedA ops.toList A o with
        | false =>
          rw [hw] at h1 hweq
          simp only [Option.some.injEq, Prod.mk.injEq] at h1
          obtain ⟨⟨rfl, rfl⟩, rfl⟩ := h1
          refine ⟨ρ, putT tm o.dst undef, w, hr, Ext.refl _ _, Nat.le_refl _, ?_, fun cs => ?_⟩
          · have := ht.put o.dst (ok_undef s.next)
            rw [den_undef] at this; exact this
          · have := step_unwanted (P := P) (w := w) (fr := fr) (ops := ops) (K := K) (j := j) (l := l) (tm := tm) (cs := cs) hm (by simp [ho, hweq])
            rw [finish_atR o ho] at this
            exact .one this
        | true =>
          rw [hw] at h1 hweq
          simp only at h1
          split at h1
          · rename_i v s2 l2 hrun
            simp only [Option.some.injEq, Prod.mk.injEq] at h1
            obtain ⟨⟨rfl, rfl⟩, rfl⟩ := h1
            have R := runner_run (v, s2, l2)
            obtain ⟨V, s3, ρ', w', g1, g2, g3, g4, g5, g6⟩ := opA_some (fr := atR fr ops (j :: l) K tm) R HR hr (evR hr ht) hm rfl ho hweq ⟨_, hrun⟩
            obtain ⟨l0, g1⟩ := g1
            rw [run_ret] at g1
            simp only [Option.some.injEq, Prod.mk.injEq] at g1
            obtain ⟨rfl, rfl, _⟩ := g1
            refine ⟨ρ', putT tm o.dst (den ρ' V), w', g2, g3, g4, (ht.mono g3 g4).put o.dst g5, fun cs => ?_⟩
            have := g6 cs
            rw [finish_atR o ho] at this
            exact this
          · simp at h1
    obtain ⟨ρ1, tm1, w1, m1, m2, m3, m4, m5⟩ := main
    obtain ⟨ρ2, tm2, w2, q1, q2, q3, q4, q5⟩ := RunC.steps HR hm h3 m1 m4
    exact ⟨ρ2, tm2, w2, q1, m2.trans q2 m3, Nat.le_trans m3 q3, q4, fun cs => (m5 cs).trans (q5 cs)⟩
/-- A region in the text's order. -/
theorem opsA_some (R : Runner G) (HR : RecSnd P w0 RR) (hm : fr.mode = .run) {kA : Tree Value → HM} : ∀ {todo : List Oper} {i : Nat} {A : Tree Value} {s : St} {ρ : Env} {tm : Array Value} {w : World},
    (∀ j, todo[j]? = ops[i + j]?) → Rel P w0 ρ s w → TR ρ s.next n A tm → G (opsA P RR n ops.toList todo A kA) s →
    ∃ A' s' ρ' tm' w', G (kA A') s' ∧ Rel P w0 ρ' s' w' ∧ Ext s.next ρ ρ' ∧ s.next ≤ s'.next ∧ TR ρ' s'.next n A' tm' ∧ ∀ cs, Steps P (lone (atR fr ops (List.range' i todo.length) K tm) cs w) (lone (atR fr ops [] K tm') cs w')
  | [], i, A, s, ρ, tm, w, htd, hr, ht, hg => ⟨A, s, ρ, tm, w, hg, hr, Ext.refl _ _, Nat.le_refl _, ht, fun cs => .refl _ _⟩
  | o :: todo, i, A, s, ρ, tm, w, htd, hr, ht, hg => by
    have ho : ops[i]? = some o := by have := htd 0; simpa using this.symm
    have htd' : ∀ j, todo[j]? = ops[i + 1 + j]? := fun j => by have := htd (j + 1); simpa [Nat.add_assoc, Nat.add_comm 1 j] using this
    have hg : G (Bool.rec (opsA P RR n ops.toList todo (putA n A o.dst undef) kA) (opA P RR o.op A fun v => opsA P RR n ops.toList todo (putA n A o.dst v) kA) (wantedA ops.toList A o)) s := hg
    have hweq := wanted_eq (ops := ops) ht o
    rw [List.length_cons, List.range'_succ]
    cases hw : wantedA ops.toList A o with
    | false =>
      rw [hw] at hg hweq
      obtain ⟨A', s', ρ', tm', w', q0, q1, q2, q3, q4, q5⟩ := opsA_some R HR hm htd' hr (tm := putT tm o.dst undef) (by
        have := ht.put o.dst (ok_undef s.next)
        rw [den_undef] at this; exact this) hg
      refine ⟨A', s', ρ', tm', w', q0, q1, q2, q3, q4, fun cs => .head ?_ (q5 cs)⟩
      have := step_unwanted (P := P) (w := w) (fr := fr) (ops := ops) (K := K) (j := i) (l := List.range' (i + 1) todo.length) (tm := tm) (cs := cs) hm (by simp [ho, hweq])
      rw [finish_atR o ho] at this
      exact this
    | true =>
      rw [hw] at hg hweq
      obtain ⟨V, s3, ρ1, w1, g1, g2, g3, g4, g5, g6⟩ := opA_some (fr := atR fr ops (i :: List.range' (i + 1) todo.length) K tm) R HR hr (evR hr ht) hm rfl ho hweq hg
      obtain ⟨A', s', ρ', tm', w', q0, q1, q2, q3, q4, q5⟩ := opsA_some R HR hm htd' g2 ((ht.mono g3 g4).put o.dst g5) g1
      refine ⟨A', s', ρ', tm', w', q0, q1, g3.trans q2 g4, Nat.le_trans g4 q3, q4, fun cs => ?_⟩
      have := g6 cs
      rw [finish_atR o ho] at this
      exact this.trans (q5 cs)
/-- A region, drawn or not. -/
theorem region_some (R : Runner G) (HR : RecSnd P w0 RR) (hm : fr.mode = .run) {id : Nat} {draw : Bool} {C : Ctx} (hn : C.n = n) (hr : Rel P w0 ρ s w) {tm : Array Value} (ht : TR ρ s.next n A tm) {ds : List Nat} {k' : List Item} {kc : Go1} {kr : Value → HM}
    (hg : G (sRegion P RR C ops draw A ds k' kc kr) s) :
    ∃ A' s' ρ' tm' w', G (kc A' k' ds) s' ∧ Rel P w0 ρ' s' w' ∧ Ext s.next ρ ρ' ∧ s.next ≤ s'.next ∧ TR ρ' s'.next n A' tm' ∧
      ∀ cs, Steps P (lone { fr with tmps := tm, todo := .code (.region id ops draw) :: K } cs w) (lone { fr with tmps := tm', todo := K } cs w') := by
  subst hn
  unfold sRegion at hg
  cases draw with
  | false =>
    obtain ⟨A', s', ρ', tm', w', q0, q1, q2, q3, q4, q5⟩ := opsA_some (fr := fr) (K := K) R HR hm (i := 0) (by simp) hr ht hg
    refine ⟨A', s', ρ', tm', w', q0, q1, q2, q3, q4, fun cs => ?_⟩
    have h1 : step P (lone { fr with tmps := tm, todo := .code (.region id ops false) :: K } cs w) = .next (lone (atR fr ops (List.range' 0 ops.toList.length) K tm) cs w) :=
      step_lone_go (by
        cases fr with
        | mk fn tmps todo defers mode kind roundOf =>
          simp only at hm
          subst hm
          simp [stepG, stepG.exec, atR, List.range_eq_range'])
    exact .head h1 ((q5 cs).trans (.one (region_end hm)))
  | true =>
    simp only at hg
    split at hg
    · rename_i hok
      unfold okDraw at hok
      simp only [Bool.and_eq_true] at hok
      obtain ⟨⟨⟨k1, k2⟩, k3⟩, k4⟩ := hok
      obtain ⟨A', s', ls, r1, r2, r3, r4⟩ := drawA_run R (i := 0) (hist := []) (by simp) (by simp) hg
      have hdown : ∀ j o, ops[j]? = some o → ∀ e ∈ o.after.toList, Region.binds .any e = true → e.on < j := by
        intro j o ho e he hb
        rw [List.all_eq_true] at k4
        have hmem : (o, j) ∈ ops.toList.zipIdx := by
          rw [List.mem_zipIdx_iff_getElem?]; simpa using ho
        have := k4 (o, j) hmem
        rw [List.all_eq_true] at this
        have := this e he
        rw [hb] at this
        simpa [Nat.blt_eq] using this
      have hrem : rem ops (Array.replicate ops.size false) = List.range' 0 ops.toList.length := by
        unfold rem
        rw [List.filter_eq_self.2 (fun j hj => by
          simp at hj
          simp [Array.getD_eq_getD_getElem?, Array.getElem?_replicate, hj]), List.range_eq_range']
        simp
      rw [← hrem] at r1
      have hshut : Shut ops (Array.replicate ops.size false) := fun j o ho hl => by
        have := (Array.getElem?_eq_some_iff.1 ho).1
        simp [Array.getD_eq_getD_getElem?, Array.getElem?_replicate, this] at hl
      have hr1 : Rel P w0 ρ s { w with drawn := w.drawn + 1 } := hr.drawn rfl rfl rfl rfl
      -- the order does not hang on the callers
      obtain ⟨ls', hrun⟩ := any_order (P := P) (RR := RR) (n := C.n) rfl hdown k3 ops.size (w.tape w.drawn (.order fr.fn id)) (Array.replicate ops.size false) (A, s) (A', s') ls (by simp) hshut (by rw [hrem]; simp) r1 r3
      obtain ⟨ρ', tm', w', q1, q2, q3, q4, q5⟩ := RunC.steps (fr := fr) (K := K) HR hm hrun hr1 ht
      refine ⟨A', s', ρ', tm', w', r2, q1, q2, q3, q4, fun cs => ?_⟩
      have h1 : step P (lone { fr with tmps := tm, todo := .code (.region id ops true) :: K } cs w) = .next (lone (atR fr ops (Region.linearise.go .any ops ops.size (w.tape w.drawn (.order fr.fn id)) (Array.replicate ops.size false) []) K tm) cs { w with drawn := w.drawn + 1 }) :=
        step_lone_go (by
          cases fr with
          | mk fn tmps todo defers mode kind roundOf =>
            simp only at hm
            subst hm
            simp [stepG, stepG.exec, atR, choose, Sem.run, Question.forced, Question.cut, Region.schedule, k1, Region.linearise])
      exact .head h1 ((q5 cs).trans (.one (region_end hm)))
    · exact absurd hg R.fail
end region
end Go.Ab
