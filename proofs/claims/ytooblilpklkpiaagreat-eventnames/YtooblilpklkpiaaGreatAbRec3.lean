/- Frames stepped, calls and rounds carried out: the whole. -/
import Derived.Test.YtooblilpklkpiaaGreatAbRec2
set_option linter.unusedSimpArgs false
set_option linter.unusedVariables false
namespace Go.Ab
variable {P : Program} {w0 : World} {G : HM → St → Prop} {ρ : Env} {s : St} {w : World} {A : Tree Value} {RR : Rec}
theorem code_some (R : Runner G) (HR : RecSnd P w0 RR) (hr : Rel P w0 ρ s w) {C : Ctx} {c : Code} {k : List Item} {ds : List Nat} {tm : Array Value} (ht : TR ρ s.next C.n A tm) (hok : okF s.next C (.code c :: k) ds) {kc : Go1} {kr : Value → HM}
    (hg : G (sCode P RR C c A ds k kc kr) s) : FGoes P w0 G kc kr C ρ s (frD ρ C (.code c :: k) ds tm) w := by
  have hk : ∀ it ∈ k, okIt s.next it := fun it hi => hok.todo it (List.mem_cons_of_mem _ hi)
  have cons2 : ∀ {a b : Item}, okIt s.next a → okIt s.next b → ∀ it ∈ a :: b :: k, okIt s.next it := fun ha hb it hi => by
    cases hi with
    | head => exact ha
    | tail _ hi => cases hi with
      | head => exact hb
      | tail _ hi => exact hk it hi
  have cons1 : ∀ {a : Item}, okIt s.next a → ∀ it ∈ a :: k, okIt s.next it := fun ha it hi => by
    cases hi with
    | head => exact ha
    | tail _ hi => exact hk it hi
  cases c with
  | skip => exact silent hr ht hok hk (fun cs => step_lone_go (by simp [stepG, stepG.exec, frD, itD])) hg
  | region id ops draw =>
    obtain ⟨A', s', ρ', tm', w', q0, q1, q2, q3, q4, q5⟩ := region_some (fr := frD ρ C (.code (.region id ops draw) :: k) ds tm) (K := k.map (itD ρ)) (id := id) (kr := kr) R HR rfl rfl hr ht hg
    have hok' : okF s.next C k ds := ⟨hk, hok.ds, hok.round⟩
    refine .inl ⟨A', k, ds, s', ρ', tm', w', q0, q1, q2, q3, q4, hok'.mono q3, fun cs => ?_⟩
    rw [frD_ext q2 hok']
    exact q5 cs
  | seq a b => exact silent hr ht hok (cons2 (a := .code a) (b := .code b) trivial trivial) (fun cs => step_lone_go (by simp [stepG, stepG.exec, frD, itD])) hg
  | cond c a b =>
    have hg : G (sCond P c a b A ds k kc kr) s := hg
    unfold sCond at hg
    split at hg
    · rename_i hc hv
      have he := (evR (fr := frD ρ C (.code (.cond c a b) :: k) ds tm) hr ht).eq c hc
      rw [hv, den] at he
      exact silent hr ht hok (cons1 (a := .code a) trivial) (fun cs => step_lone_go (by
        unfold frD at he ⊢
        simp only [List.map_cons, itD] at he ⊢
        simp [stepG, stepG.exec, he])) hg
    · rename_i hc hv
      have he := (evR (fr := frD ρ C (.code (.cond c a b) :: k) ds tm) hr ht).eq c hc
      rw [hv, den] at he
      exact silent hr ht hok (cons1 (a := .code b) trivial) (fun cs => step_lone_go (by
        unfold frD at he ⊢
        simp only [List.map_cons, itD] at he ⊢
        simp [stepG, stepG.exec, he])) hg
    · exact absurd hg R.fail
  | block id body => exact silent hr ht hok (cons2 (a := .code body) (b := .inBlock id) trivial trivial) (fun cs => step_lone_go (by simp [stepG, stepG.exec, frD, itD])) hg
  | loop body => exact silent hr ht hok (cons2 (a := .code body) (b := .inLoop body) trivial trivial) (fun cs => step_lone_go (by simp [stepG, stepG.exec, frD, itD])) hg
  | rangeFunc f params assign body => exact range_some R HR hr ht hok hg
  | exit id =>
    have hg : G (sExit P C id A ds k kc kr) s := hg
    unfold sExit at hg
    have hm := exitTo_map ρ id k
    split at hg
    · rename_i t hx
      rw [hx] at hm
      exact silent hr ht hok (exitTo_ok id hx hk) (fun cs => step_lone_go (by simp [stepG, stepG.exec, frD, itD, hm])) hg
    · rename_i hx
      exact leave_some R hr ht hok (fun hro hj => by rcases hj with hj | hj <;> simp at hj) (fun l hro c cs v w' hrun => frD_round hro c cs hrun (.inr (.inr (.inl ⟨k, id, rfl, hx, rfl⟩)))) hg
  | scope body => exact silent hr ht hok (cons2 (a := .code body) (b := .inScope body) trivial trivial) (fun cs => step_lone_go (by simp [stepG, stepG.exec, frD, itD])) hg
  | label l => exact silent hr ht hok hk (fun cs => step_lone_go (by simp [stepG, stepG.exec, frD, itD])) hg
  | goto l =>
    have hg : G (sGoto P C l A ds k kc kr) s := hg
    unfold sGoto at hg
    have hm := gotoIn_map ρ l k
    split at hg
    · rename_i t hx
      rw [hx] at hm
      exact silent hr ht hok (gotoIn_ok l hx hk) (fun cs => step_lone_go (by simp [stepG, stepG.exec, frD, itD, hm])) hg
    · rename_i hx
      exact leave_some R hr ht hok (fun hro hj => by rcases hj with hj | hj <;> simp at hj) (fun l' hro c cs v w' hrun => frD_round hro c cs hrun (.inr (.inr (.inr ⟨k, l, rfl, hx, rfl⟩)))) hg
  | ret => exact leave_some R hr ht hok (fun hro _ cs => frD_ret hro cs (.inr ⟨k, rfl⟩)) (fun l hro c cs v w' hrun => frD_round hro c cs hrun (.inr (.inl ⟨k, rfl, rfl⟩))) hg
  | refuse why => exact absurd hg R.fail
theorem step_some (R : Runner G) (HR : RecSnd P w0 RR) (hr : Rel P w0 ρ s w) {C : Ctx} {todo : List Item} {ds : List Nat} {tm : Array Value} (ht : TR ρ s.next C.n A tm) (hok : okF s.next C todo ds) {kc : Go1} {kr : Value → HM}
    (hg : G (stepA P RR C A todo ds kc kr) s) : FGoes P w0 G kc kr C ρ s (frD ρ C todo ds tm) w := by
  cases todo with
  | nil => exact leave_some R hr ht hok (fun hro _ cs => frD_ret hro cs (.inl rfl)) (fun l hro c cs v w' hrun => frD_round hro c cs hrun (.inl ⟨rfl, rfl⟩)) hg
  | cons it k =>
    have hk : ∀ it ∈ k, okIt s.next it := fun it hi => hok.todo it (List.mem_cons_of_mem _ hi)
    have hg : G (sItem P RR C it A ds k kc kr) s := hg
    cases it with
    | code c => exact code_some R HR hr ht hok hg
    | inBlock id => exact silent hr ht hok hk (fun cs => step_lone_go (by simp [stepG, stepG.exec, frD, itD])) hg
    | inLoop body =>
      exact silent hr ht hok (fun it hi => by
        cases hi with
        | head => trivial
        | tail _ hi => cases hi with
          | head => trivial
          | tail _ hi => exact hk it hi) (fun cs => step_lone_go (by simp [stepG, stepG.exec, frD, itD])) hg
    | inScope body => exact silent hr ht hok hk (fun cs => step_lone_go (by simp [stepG, stepG.exec, frD, itD])) hg
    | inRegion o t => exact absurd hg R.fail
    | inRangeFunc l => exact absurd hg R.fail
    | endRangeFunc l =>
      have hg : G (sEnd l A ds k kc kr) s := hg
      unfold sEnd at hg
      obtain ⟨x, hb, hg⟩ := R.gb hg
      cases x with
      | loop r =>
        simp only at hg
        obtain ⟨b1, tm1, b2, b3⟩ := hr.blk l _ hb
        have main : r.state ≠ .busy → G (.sb l (.loop { r with state := .exhausted }) (kc A ((r.pending.map Item.code).toList ++ k) ds)) s → FGoes P w0 G kc kr C ρ s (frD ρ C (.endRangeFunc l :: k) ds tm) w := by
          intro hnb hg
          obtain ⟨_, hg⟩ := R.sb hg
          have hrel := hr.obj_write (o' := .loop { state := .exhausted, pending := r.pending, fn := r.fn, tmps := tm1, params := ⟨r.params⟩, assign := r.assign, body := r.body, defers := (ρ r.defers).b })
            (x' := .loop { r with state := .exhausted }) hb (by simp) (fun w' h => ⟨b1, tm1, b2, h⟩)
          have hrun : (Instr.endLoop (ρ l).b).run P w = .ok r.pending { w with heap := w.heap.setIfInBounds (ρ l).b (.loop { state := .exhausted, pending := r.pending, fn := r.fn, tmps := tm1, params := ⟨r.params⟩, assign := r.assign, body := r.body, defers := (ρ r.defers).b }) } := by
            have hnb' : (r.state == .busy) = false := by simpa using hnb
            simp only [Instr.endLoop, Instr.getLoop, Sem.run_bind, run_getObj' b3 (by simp), Result.andThen_ok, Sem.run_pure, hnb', Bool.false_eq_true, if_false]
            rw [run_setObj' b3 (by simp)]
            rfl
          refine .inl ⟨A, (r.pending.map Item.code).toList ++ k, ds, _, ρ, tm, _, hg, hrel, Ext.refl _ _, Nat.le_refl _, ht, ⟨fun it hi => ?_, hok.ds, hok.round⟩, fun cs => .one (step_lone_go ?_)⟩
          · rcases List.mem_append.1 hi with hi | hi
            · cases hp : r.pending with
              | none => rw [hp] at hi; simp at hi
              | some c => rw [hp] at hi; simp at hi; subst hi; trivial
            · exact hk it hi
          · have e : ((r.pending.map Item.code).toList ++ k).map (itD ρ) = (r.pending.map Item.code).toList ++ k.map (itD ρ) := by
              rw [List.map_append]
              congr 1
              cases r.pending <;> simp [itD]
            simp only [frD, e]
            simp [stepG, stepG.exec, itD, hrun]
        cases hst : r.state with
        | busy => rw [hst] at hg; exact absurd hg R.fail
        | ready => rw [hst] at hg; exact main (by simp [hst]) hg
        | done => rw [hst] at hg; exact main (by simp [hst]) hg
        | exhausted => rw [hst] at hg; exact main (by simp [hst]) hg
      | _ => exact absurd hg R.fail
    | beginRound =>
      have hg : G (sBegin C A ds k kc kr) s := hg
      unfold sBegin at hg
      split at hg
      · rename_i l hro
        obtain ⟨x, hb, hg⟩ := R.gb hg
        cases x with
        | loop r =>
          simp only at hg
          obtain ⟨b1, tm1, b2, b3⟩ := hr.blk l _ hb
          cases hst : r.state with
          | ready =>
            rw [hst] at hg
            obtain ⟨_, hg⟩ := R.sb hg
            have hrel := hr.obj_write (o' := .loop { state := .busy, pending := r.pending, fn := r.fn, tmps := tm1, params := ⟨r.params⟩, assign := r.assign, body := r.body, defers := (ρ r.defers).b })
              (x' := .loop { r with state := .busy }) hb (by simp) (fun w' h => ⟨b1, tm1, b2, h⟩)
            have hrun : (Instr.beginRound (ρ l).b).run P w = .ok () { w with heap := w.heap.setIfInBounds (ρ l).b (.loop { state := .busy, pending := r.pending, fn := r.fn, tmps := tm1, params := ⟨r.params⟩, assign := r.assign, body := r.body, defers := (ρ r.defers).b }) } := by
              simp only [Instr.beginRound, Instr.getLoop, Sem.run_bind, run_getObj' b3 (by simp), Result.andThen_ok, Sem.run_pure]
              rw [run_setObj' b3 (by simp)]
              simp [hst]
            refine .inl ⟨A, k, ds, _, ρ, tm, _, hg, hrel, Ext.refl _ _, Nat.le_refl _, ht, ⟨hk, hok.ds, hok.round⟩, fun cs => .one (step_lone_go ?_)⟩
            simp [stepG, stepG.exec, stepG.apply, frD, itD, hro, hrun, Frame.finish]
          | busy => rw [hst] at hg; exact absurd hg R.fail
          | done => rw [hst] at hg; exact absurd hg R.fail
          | exhausted => rw [hst] at hg; exact absurd hg R.fail
        | _ => exact absurd hg R.fail
      · exact absurd hg R.fail
    | call a b c d => exact absurd hg R.fail
    | extern a b => exact absurd hg R.fail
theorem iter_some (R : Runner G) (HR : RecSnd P w0 RR) {C : Ctx} : ∀ (n : Nat) {ρ : Env} {s : St} {w : World} {A : Tree Value} {todo : List Item} {ds : List Nat} {tm : Array Value} {kc : Go1} {kr : Value → HM},
    Rel P w0 ρ s w → TR ρ s.next C.n A tm → okF s.next C todo ds → G (iterA P RR C n A todo ds kc kr) s → FGoes P w0 G kc kr C ρ s (frD ρ C todo ds tm) w
  | 0, ρ, s, w, A, todo, ds, tm, kc, kr, hr, ht, hok, hg => step_some R HR hr ht hok hg
  | n + 1, ρ, s, w, A, todo, ds, tm, kc, kr, hr, ht, hok, hg => by
    have hg : G (iterA P RR C n A todo ds (fun A todo ds => iterA P RR C n A todo ds kc kr) kr) s := hg
    rcases iter_some R HR n hr ht hok hg with ⟨A1, t1, d1, s1, ρ1, tm1, w1, q0, q1, q2, q3, q4, q5, q6⟩ | h
    · rcases iter_some R HR n q1 q4 q5 q0 with ⟨A2, t2, d2, s2, ρ2, tm2, w2, p0, p1, p2, p3, p4, p5, p6⟩ | ⟨V, s2, ρ2, w2, p0, p1, p2, p3, p4, p5⟩
      · exact .inl ⟨A2, t2, d2, s2, ρ2, tm2, w2, p0, p1, q2.trans p2 q3, Nat.le_trans q3 p3, p4, p5, fun cs => (q6 cs).trans (p6 cs)⟩
      · exact .inr ⟨V, s2, ρ2, w2, p0, p1, q2.trans p2 q3, Nat.le_trans q3 p3, p4, Outs.of_steps (fr' := frD ρ1 C t1 d1 tm1) rfl q6 p5⟩
    · exact .inr h
theorem fold_put {nx n : Nat} : ∀ {ps : List (Tmp × Value)} {A : Tree Value} {tm : Array Value}, TR ρ nx n A tm → (∀ p ∈ ps, okV nx p.2) →
    TR ρ nx n (ps.foldl (fun t p => putA n t (some p.1) p.2) A) (ps.foldl (fun t p => t.setIfInBounds p.1 (den ρ p.2)) tm)
  | [], A, tm, h, _ => h
  | p :: ps, A, tm, h, hp => by
    rw [List.foldl_cons, List.foldl_cons]
    exact fold_put (h.put' p.1 (hp p (List.mem_cons_self ..))) fun q hq => hp q (List.mem_cons_of_mem _ hq)
theorem rec_snd : ∀ d, RecSnd P w0 (recA P d)
  | 0 => ⟨fun R _ _ _ hg => absurd hg R.fail, fun R _ _ _ hg => absurd hg R.fail⟩
  | d + 1 => by
    have HR := rec_snd d
    refine ⟨fun {G k ρ s w f fn args} R hr hf ha hg => ?_, fun {G k ρ s w l args} R hr hl ha hg => ?_⟩
    · have hg : G (callA P (recA P d) f fn args k) s := hg
      unfold callA at hg
      split at hg
      · rename_i c hc
        split at hg
        · rename_i hle
          simp only [Bool.and_eq_true] at hle
          have hle1 := Nat.le_of_ble_eq_true hle.1
          have hle2 := Nat.le_of_ble_eq_true hle.2
          have hfr : Frame.enter P f ⟨args.map (den ρ)⟩ .normal = frD ρ ⟨f, fn.ntmps, none⟩ [.code c] [] ((⟨args.map (den ρ)⟩ : Array Value) ++ Array.replicate (fn.ntmps - args.length) undef) := by
            simp [Frame.enter, frD, hf, hc, itD]
          have ht : TR ρ s.next fn.ntmps (Tree.ofList args) ((⟨args.map (den ρ)⟩ : Array Value) ++ Array.replicate (fn.ntmps - args.length) undef) := by
            have hbig : args.length < 2 ^ 64 := Nat.lt_of_le_of_lt (Nat.le_trans hle1 hle2) (by decide)
            have hget : ∀ i, (Tree.ofList args).get i = args[i]? := fun i => Tree.get_ofList args i hbig
            refine ⟨by simp; omega, fun i hi => ?_, fun i => ?_, fun i hi => ?_⟩
            · unfold at?
              rw [hget]
              by_cases h : i < args.length
              · rw [Array.getElem?_append_left (by simp; exact h)]
                simp [h]
              · rw [Array.getElem?_append_right (by simp; omega)]
                simp [Nat.not_lt.1 h, den_undef, Array.getElem?_replicate]
                omega
            · unfold at?
              rw [hget]
              cases h : args[i]? with
              | none => exact ok_undef _
              | some v => exact (okL_iff _ _).1 ha v (List.mem_of_getElem? h)
            · rw [hget]; simp; omega
          have hok : okF s.next ⟨f, fn.ntmps, none⟩ [.code c] [] := ⟨fun it hi => by simp at hi; subst hi; trivial, fun d hd => by simp at hd, fun l hl => by simp at hl⟩
          rcases iter_some (C := ⟨f, fn.ntmps, none⟩) R HR 20 hr ht hok hg with ⟨A1, t1, d1, s1, ρ1, tm1, w1, q0, q1, q2, q3, q4, q5, q6⟩ | ⟨V, s2, ρ2, w2, p0, p1, p2, p3, p4, p5⟩
          · exact absurd q0 R.fail
          · exact ⟨V, s2, ρ2, w2, p0, p1, p2, p3, p4, by rw [hfr]; exact p5⟩
        · exact absurd hg R.fail
      · exact absurd hg R.fail
    · have hg : G (roundA P (recA P d) l args k) s := hg
      unfold roundA at hg
      obtain ⟨x, hb, hg⟩ := R.gb hg
      cases x with
      | loop r =>
        simp only at hg
        obtain ⟨b1, tm1, b2, b3⟩ := hr.blk l _ hb
        split at hg
        · rename_i hlen
          have hps : ∀ p ∈ r.params.zip args, okV s.next p.2 := fun p hp => (okL_iff _ _).1 ha p.2 (List.of_mem_zip hp).2
          have ht := fold_put (ρ := ρ) b2 hps
          have hok : okF s.next ⟨r.fn, r.n, some l⟩ [.code r.assign, .beginRound, .code r.body] [] := ⟨fun it hi => by
            simp at hi
            rcases hi with rfl | rfl | rfl <;> trivial, fun d hd => by simp at hd, fun l' hl' => by simp at hl'; subst hl'; exact hl⟩
          have hfold : ((⟨r.params⟩ : Array Tmp).zip ⟨args.map (den ρ)⟩).foldl (fun tmps (x : Tmp × Value) => tmps.setIfInBounds x.1 x.2) tm1 = (r.params.zip args).foldl (fun t p => t.setIfInBounds p.1 (den ρ p.2)) tm1 := by
            rw [← Array.foldl_toList]
            simp only [Array.toList_zip]
            rw [List.zip_map_right, List.foldl_map]
            rfl
          refine ⟨r.fn, (r.params.zip args).foldl (fun t p => t.setIfInBounds p.1 (den ρ p.2)) tm1, r.assign, r.body, ?_, ?_⟩
          · have hsz : (⟨args.map (den ρ)⟩ : Array Value).size = (⟨r.params⟩ : Array Tmp).size := by simp [hlen]
            simp only [Instr.yield, Instr.getLoop, Sem.run_bind, run_getObj' b3 (by simp), Result.andThen_ok, Sem.run_pure, hsz, ne_eq, not_true_eq_false, if_false]
            rw [← hfold]
          · rcases iter_some (C := ⟨r.fn, r.n, some l⟩) R HR 20 hr ht hok hg with ⟨A1, t1, d1, s1, ρ1, tm2, w1, q0, q1, q2, q3, q4, q5, q6⟩ | ⟨V, s2, ρ2, w2, p0, p1, p2, p3, p4, p5⟩
            · exact absurd q0 R.fail
            · exact ⟨V, s2, ρ2, w2, p0, p1, p2, p3, p4, p5⟩
        · exact absurd hg R.fail
      | _ => exact absurd hg R.fail

/-! ### All ways -/
theorem runner_all (c : Value → Bool) : Runner (fun m s => m.all c s = true) where
  fail := by intro s h; cases h
  gb := by
    intro b k s h
    have h : (Option.rec false (fun x => (k x).all c s) (s.h.get b) : Bool) = true := h
    cases e : s.h.get b with
    | none => rw [e] at h; cases h
    | some x => rw [e] at h; exact ⟨x, rfl, h⟩
  sb := by
    intro b v k s h
    have h : (Option.rec false (fun _ => k.all c ⟨s.h.upd (some v) b, s.next⟩) (s.h.get b) : Bool) = true := h
    cases e : s.h.get b with
    | none => rw [e] at h; cases h
    | some x => rw [e] at h; exact ⟨⟨x, rfl⟩, h⟩
  mk_ := by
    intro x k s h
    have h : (Bool.rec false ((k s.next).all c ⟨s.h.upd (some x) s.next, Nat.succ s.next⟩) (Nat.ble s.next 1152921504606846976) : Bool) = true := h
    cases e : Nat.ble s.next 1152921504606846976 with
    | false => rw [e] at h; cases h
    | true => rw [e] at h; exact h
  kill := by intro b k s h; exact h
  choose := by
    intro n k s h i h1 h2
    have h : (Bool.rec ((List.range n).all fun i => (k i).all c s) ((k 0).all c s) (Nat.ble n 1) : Bool) = true := h
    cases e : Nat.ble n 1 with
    | true => rw [e] at h; rw [h1 (Nat.le_of_ble_eq_true e)]; exact h
    | false =>
      rw [e] at h
      have hn : ¬ n ≤ 1 := fun hh => by rw [Nat.ble_eq_true_of_le hh] at e; cases e
      exact List.all_eq_true.1 h i (List.mem_range.2 (h2 hn))
  iso := by
    intro m k s h
    have h : (Option.rec false (fun r => (k r.1 r.2.2).all c r.2.1) (m.run s .nil) : Bool) = true := h
    cases e : m.run s .nil with
    | none => rw [e] at h; cases h
    | some r => rw [e] at h; exact ⟨r.1, r.2.1, r.2.2, rfl, h⟩
def yesV : Value → Bool
  | .bool b => b
  | _ => false
/-- **A call whose abstract run comes to 'true' on all ways returns true, and what was there stays.** -/
theorem calls_true {f : FuncId} {fn : Func} (hf : P.funcs[f]? = some fn) (d : Nat) (h0 : P.globals.size = 0)
    (h : HM.all yesV ((recA P d).call f fn [] .ret) ⟨.nil, 0⟩ = true) (w : World) :
    Calls P f #[] w fun e w' => e = .returned (.bool true) ∧ w'.tape = w.tape ∧ w'.os = w.os ∧ w'.output = w.output ∧ w.heap.size ≤ w'.heap.size ∧ ∀ b, b < w.heap.size → w'.heap[b]? = w.heap[b]? := by
  have hr : Rel P w (fun _ => ⟨0, 0, 0, 0⟩) ⟨.nil, 0⟩ w := ⟨rfl, rfl, rfl, Nat.le_refl _, fun _ _ => rfl, by omega, fun g hg => by omega, fun b x hb => by simp at hb, fun b c x y hb => by simp at hb, fun b x hb => by simp at hb, fun b x hb => by simp at hb, fun b x hb => by simp at hb⟩
  obtain ⟨V, s', ρ', w', g1, g2, g3, g4, g5, g6⟩ := (rec_snd (P := P) (w0 := w) d).call (runner_all _) hr hf (by rw [okL]; trivial) h
  intro cs
  obtain ⟨fr', q1, q2, q3⟩ := g6 cs
  have hV : V = .bool true := by
    have g1 : yesV V = true := g1
    cases V with
    | bool b => have g1 : b = true := g1; subst g1; rfl
    | _ => simp [yesV] at g1
  subst hV
  rw [den] at q3
  refine ⟨.returned (.bool true), w', fr', ⟨rfl, g2.tape, g2.os, g2.output, g2.size, g2.old⟩, q1, ?_, q3⟩
  rw [q2]; rfl
end Go.Ab
