/- Each operation's rule is sound: part seven: maps written, iterators, assertions. -/
import Derived.Test.YtooblilpklkpiaaGreatAbOps6
set_option linter.unusedSimpArgs false
set_option linter.unusedVariables false
namespace Go.Ab
variable {P : Program} {w0 : World} {G : HM → St → Prop} {k : Value → HM} {ρ : Env} {s : St} {w : World} {A : Tree Value} {e : Operand → Value} {o : Oper}
theorem map_write (R : Runner G) (hr : Rel P w0 ρ s w) {r : Nat} {es es' : List MapEntry} {c c' : Nat} (hb : s.h.get r = some (.map es c)) (hok : ∀ e ∈ es', okV s.next e.key ∧ okV s.next e.val) {f : HM} (hg : G (.sb r (.map es' c') f) s) :
    ∃ s', G f s' ∧ s'.next = s.next ∧ Rel P w0 ρ s' { w with heap := w.heap.setIfInBounds (ρ r).b (.map ⟨es'.map (denE ρ)⟩ c') } ∧
      (setObj (ρ r).b (.map ⟨es'.map (denE ρ)⟩ c')).run P w = .ok () { w with heap := w.heap.setIfInBounds (ρ r).b (.map ⟨es'.map (denE ρ)⟩ c') } := by
  obtain ⟨_, hg⟩ := R.sb hg
  exact ⟨_, hg, rfl, hr.obj_write hb (by simp) (fun w' h => ⟨h, hok⟩), run_setObj' (hr.blk r _ hb).1 (by simp)⟩
theorem modify_map (f : MapEntry → MapEntry) (g h : MapEntry → MapEntry) (hfg : ∀ e, h (f e) = f (g e)) : ∀ (l : List MapEntry) (i : Nat), ((l.map f).toArray.modify i h).toList = (l.modify i g).map f := by
  intro l i
  rw [Array.toList_modify]
  apply List.ext_getElem?
  intro j
  simp only [List.getElem?_modify, List.getElem?_map]
  cases l[j]? with
  | none => simp
  | some e => by_cases hij : i = j <;> simp [hij, hfg]
theorem s_upd {t : TypeId} {m key x : Operand} (R : Runner G) (hr : Rel P w0 ρ s w) (he : EvR P ρ s.next A e) (hm : okOpd P m = true) (hk : okOpd P key = true) (hx : okOpd P x = true) (hg : G (oUpdate P t m key x A k) s) :
    GoesU P w0 G k ρ s ((Instr.mapUpdate t (e m) (e key) (e x)).run P w) := by
  unfold oUpdate updateA at hg
  rw [he.eq m hm, he.eq key hk, he.eq x hx]
  split at hg
  · rename_i kt et r hu hv
    have hu' := under_some hu (by simp)
    split at hg
    · rename_i hkp
      obtain ⟨k1, k2, k3⟩ := keyPlain_some (w := w) hkp
      rw [hv, (plain_den s.next ρ k1).1, den, Option.map_some]
      obtain ⟨es, c, hb, hg⟩ := withMap_some R hg
      obtain ⟨m1, m2, m3⟩ := map_get hr hb
      split at hg
      · rename_i i v hf
        have hf' := findKey_run (ρ := ρ) (w := w) k3 hf
        obtain ⟨d, hd⟩ := k3
        obtain ⟨_, en, g2, g3, g4⟩ := (findA_some (ρ := ρ) (w := w) hd hf).2.2 i v rfl
        simp only [Nat.sub_zero] at g2
        split at hg
        · rename_i hsb
          obtain ⟨s', h1, h2, h3, h4⟩ := map_write R hr hb (fun e' he' => by
            obtain ⟨j, hj⟩ := List.getElem?_of_mem he'
            rw [List.getElem?_modify] at hj
            cases hej : es[j]? with
            | none => rw [hej] at hj; simp at hj
            | some e0 =>
              rw [hej] at hj
              simp at hj
              subst hj
              have := m2 e0 (List.mem_of_getElem? hej)
              split
              · exact ⟨(plain_den s.next ρ k1).2, he.ok x hx⟩
              · exact this) hg
          refine ⟨s', ρ, _, h1, h3, Ext.refl _ _, by omega, ?_⟩
          have e1 : ((⟨es.map (denE ρ)⟩ : Array MapEntry)[i]?.map (·.key)).getD (ev A key) = (es[i]?.map (·.key)).getD (ev A key) := by
            rw [g2]
            simp [g2, denE, (plain_den s.next ρ g3).1]
          have e2 : (⟨es.map (denE ρ)⟩ : Array MapEntry).modify i (fun (e : MapEntry) => { e with key := ev A key, val := den ρ (ev A x) }) = ⟨(es.modify i fun (e : MapEntry) => { e with key := ev A key, val := ev A x }).map (denE ρ)⟩ := by
            apply Array.ext'
            exact modify_map (denE ρ) (fun (e : MapEntry) => { e with key := ev A key, val := ev A x }) _ (fun e => by simp [denE, (plain_den s.next ρ k1).1]) es i
          simp only [Instr.mapUpdate, Sem.run_bind, run_underlying hu', Result.andThen_ok, m1, k2]
          rw [hf']
          simp only [resD, Option.map_some, Result.andThen_ok, e1, Instr.keyThatStays, hsb, if_true, Sem.run_bind, Sem.run_pure, e2]
          exact h4
        · exact absurd hg R.fail
      · rename_i hf
        have hf' := findKey_run (ρ := ρ) (w := w) k3 hf
        obtain ⟨s', h1, h2, h3, h4⟩ := map_write R hr hb (fun e' he' => by
          rcases List.mem_append.1 he' with h | h
          · exact m2 e' h
          · simp at h; subst h; exact ⟨(plain_den s.next ρ k1).2, he.ok x hx⟩) hg
        refine ⟨s', ρ, _, h1, h3, Ext.refl _ _, by omega, ?_⟩
        have e2 : (⟨es.map (denE ρ)⟩ : Array MapEntry).push ({ key := ev A key, val := den ρ (ev A x), born := c } : MapEntry) = ⟨(es ++ [({ key := ev A key, val := ev A x, born := c } : MapEntry)]).map (denE ρ)⟩ := by
          apply Array.ext'
          simp [denE, (plain_den s.next ρ k1).1]
        simp only [Instr.mapUpdate, Sem.run_bind, run_underlying hu', Result.andThen_ok, m1, k2]
        rw [hf']
        simp only [resD, Option.map_none, Result.andThen_ok, e2]
        exact h4
      · exact absurd hg R.fail
    · exact absurd hg R.fail
  · exact absurd hg R.fail
theorem s_mapUpdate {t : TypeId} {m key x : Operand} (R : Runner G) (hr : Rel P w0 ρ s w) (he : EvR P ρ s.next A e) (hm : okOpd P m = true) (hk : okOpd P key = true) (hx : okOpd P x = true) (ho : o.op = .mapUpdate t m key x) (hg : G (oUpdate P t m key x A k) s) :
    Goes P w0 G k ρ s ((execOp e o).run P w) := by
  simp only [execOp, ho]
  exact GoesU.goes (s_upd R hr he hm hk hx hg)
theorem s_insert {t : TypeId} {m key x : Operand} (R : Runner G) (hr : Rel P w0 ρ s w) (he : EvR P ρ s.next A e) (hm : okOpd P m = true) (hk : okOpd P key = true) (hx : okOpd P x = true) (ho : o.op = .insert t m key x) (hg : G (oUpdate P t m key x A k) s) :
    Goes P w0 G k ρ s ((execOp e o).run P w) := by
  simp only [execOp, ho]
  exact GoesU.goes (s_upd R hr he hm hk hx hg)
theorem s_range {t : TypeId} {x : Operand} (R : Runner G) (hr : Rel P w0 ρ s w) (he : EvR P ρ s.next A e) (hx : okOpd P x = true) (ho : o.op = .range t x) (hg : G (oRange P t x A k) s) :
    Goes P w0 G k ρ s ((execOp e o).run P w) := by
  unfold oRange at hg
  simp only [execOp, ho]
  refine GoesV.goes ?_
  have h0 := he.ok x hx
  rw [he.eq x hx]
  split at hg
  · rename_i str hu hv
    have hu' := under_some hu (by simp)
    rw [hv, den]
    have hg := R.mk_ hg
    obtain ⟨h1, h2⟩ := hr.new (L := ⟨w.heap.size, 0, 0, 0⟩) (o := .stringIter str 0) (x := .siter str 0) rfl (fun w' hw' => ⟨rfl, hw'⟩)
    refine ⟨_, _, _, _, hg, h1, h2, Nat.le_succ _, ?_, ?_⟩
    · rw [okV]; intro y hy; simp at hy; subst hy; exact ⟨by simp [St.put], rfl⟩
    · simp [Instr.range, run_underlying hu', den, envN_self, addrD]
  · rename_i kt et m hu hv
    have hu' := under_some hu (by simp)
    rw [hv] at h0
    rw [okV] at h0
    rw [hv, den]
    obtain ⟨es, c, hb, hg⟩ := withMap_some R hg
    obtain ⟨m1, m2, m3⟩ := map_get hr hb
    have hg := R.mk_ hg
    obtain ⟨h1, h2⟩ := hr.new (L := ⟨w.heap.size, 0, 0, 0⟩) (o := .mapIter (some (ρ m).b) c #[] c) (x := .miter m c [] c) rfl (fun w' hw' => by
      refine ⟨rfl, ?_, Nat.lt_succ_of_lt (h0 m rfl)⟩
      rw [ext_envN _ _ _ m (h0 m rfl)]; exact hw')
    refine ⟨_, _, _, _, hg, h1, h2, Nat.le_succ _, ?_, ?_⟩
    · rw [okV]; intro y hy; simp at hy; subst hy; exact ⟨by simp [St.put], rfl⟩
    · simp [Instr.range, run_underlying hu', den, envN_self, addrD, m1]
  · exact absurd hg R.fail
theorem s_assert {x : Operand} {xt asserted : TypeId} {ok : Bool} (R : Runner G) (hr : Rel P w0 ρ s w) (he : EvR P ρ s.next A e) (hx : okOpd P x = true) (ho : o.op = .typeAssert x xt asserted ok) (hg : G (oAssert P x xt asserted ok A k) s) :
    Goes P w0 G k ρ s ((execOp e o).run P w) := by
  unfold oAssert at hg
  simp only [execOp, ho]
  refine GoesV.goes ?_
  have h0 := he.ok x hx
  rw [he.eq x hx]
  have holds : ∀ v, okV s.next v → G (asrtFin P asserted ok (some v) k) s → GoesV P w0 G k ρ s (.ok (if ok then .tuple #[den ρ v, .bool true] else den ρ v) w) := by
    intro v hv hg
    have : (if ok = true then Value.tuple #[den ρ v, .bool true] else den ρ v) = den ρ (if ok = true then .tuple #[v, .bool true] else v) := by
      cases ok <;> simp [den, denA, denL]
    rw [this]
    refine GoesV.val hr ?_ hg
    cases ok
    · simpa using hv
    · simp [okV, okA, okL]; exact hv
  have fails : G (asrtFin P asserted ok none k) s → ok = true ∧ ∃ z, (zeroValue asserted).run P w = .ok z w ∧ GoesV P w0 G k ρ s (.ok (.tuple #[z, .bool false]) w) := by
    intro hg
    unfold asrtFin at hg
    cases ok with
    | false => exact absurd hg R.fail
    | true =>
      simp only [if_true] at hg
      split at hg
      · rename_i z hz
        split at hg
        · rename_i hp
          obtain ⟨p1, p2⟩ := plain_den s.next ρ hp
          refine ⟨rfl, z, zeroOf_some hz, ?_⟩
          have : Value.tuple #[z, .bool false] = den ρ (.tuple #[z, .bool false]) := by simp [den, denA, denL, p1]
          rw [this]
          exact GoesV.val hr (by simp [okV, okA, okL]; exact p2) hg
        · exact absurd hg R.fail
      · exact absurd hg R.fail
  split at hg
  · exact absurd hg R.fail
  · rename_i ms hu hv
    have hu' := under_some hu (by simp)
    rw [hv, den]
    obtain ⟨hok, z, z1, z2⟩ := fails hg
    subst hok
    simpa [Instr.typeAssert, run_underlying hu', z1] using z2
  · rename_i want t v hu hv
    have hu' := under_some hu (by simp)
    rw [hv] at h0
    rw [hv, den]
    split at hg
    · rename_i i hi
      have hti : (typeInfo t).run P w = .ok i w := by simp [typeInfo, hi]
      cases hm : Instr.missingMethod want i.methods with
      | none =>
        rw [hm] at hg
        have := holds (.iface t v) h0 hg
        rw [den] at this
        cases ok <;> simpa [Instr.typeAssert, run_underlying hu', hti, hm] using this
      | some mm =>
        rw [hm] at hg
        obtain ⟨hok, z, z1, z2⟩ := fails hg
        subst hok
        simpa [Instr.typeAssert, run_underlying hu', hti, hm, z1] using z2
    · exact absurd hg R.fail
  · rename_i hv n1 n2
    have hu' := under_some (P := P) (t := asserted) rfl n1
    rw [hv, den]
    obtain ⟨hok, z, z1, z2⟩ := fails hg
    subst hok
    simp only [Instr.typeAssert, Sem.run_bind, run_underlying hu', Result.andThen_ok]
    generalize under P asserted = d at *
    cases d <;> first | exact absurd rfl n1 | exact (n2 _ rfl).elim | simpa [z1] using z2
  · rename_i t v hv n1 n2
    have hu' := under_some (P := P) (t := asserted) rfl n1
    rw [hv] at h0
    rw [hv, den]
    rw [okV] at h0
    simp only [Instr.typeAssert, Sem.run_bind, run_underlying hu', Result.andThen_ok]
    by_cases ht : t = asserted
    · rw [if_pos ht] at hg
      have := holds v h0 hg
      generalize under P asserted = d at *
      cases d <;> first | exact absurd rfl n1 | exact (n2 _ rfl).elim | (cases ok <;> simpa [ht] using this)
    · rw [if_neg ht] at hg
      obtain ⟨hok, z, z1, z2⟩ := fails hg
      subst hok
      generalize under P asserted = d at *
      cases d <;> first | exact absurd rfl n1 | exact (n2 _ rfl).elim | simpa [ht, z1] using z2
  · exact absurd hg R.fail

theorem filter_map (ρ : Env) (p : Nat → Bool) (l : List MapEntry) : (⟨l.map (denE ρ)⟩ : Array MapEntry).filter (fun e => p e.born) = ⟨(l.filter fun e => p e.born).map (denE ρ)⟩ := by
  apply Array.ext'
  rw [Array.toList_filter, List.filter_map]
  rfl
theorem cands_arr (ρ : Env) (X Y : List MapEntry) : ((if (⟨X.map (denE ρ)⟩ : Array MapEntry).isEmpty = true then #[none] else #[]) ++ ((⟨X.map (denE ρ)⟩ : Array MapEntry) ++ (⟨Y.map (denE ρ)⟩ : Array MapEntry)).map some) =
    (⟨((if X.isEmpty = true then [none] else []) ++ (X ++ Y).map some).map (Option.map (denE ρ))⟩ : Array (Option MapEntry)) := by
  apply Array.ext'
  cases X with
  | nil => simp
  | cons a X => simp; rfl
theorem gone_eq (ρ : Env) (seen : List Nat) (es : List MapEntry) (last : Nat) : (!(⟨seen⟩ : Array Nat).isEmpty && !(⟨es.map (denE ρ)⟩ : Array MapEntry).isEmpty && (⟨es.map (denE ρ)⟩ : Array MapEntry).all (fun e => decide (e.born ≥ last))) = (!seen.isEmpty && !es.isEmpty && es.all (fun e => decide (e.born ≥ last))) := by
  have h1 : (⟨seen⟩ : Array Nat).isEmpty = seen.isEmpty := by cases seen <;> rfl
  have h2 : (⟨es.map (denE ρ)⟩ : Array MapEntry).isEmpty = es.isEmpty := by cases es <;> rfl
  have h3 : (⟨es.map (denE ρ)⟩ : Array MapEntry).all (fun e => decide (e.born ≥ last)) = es.all (fun e => decide (e.born ≥ last)) := by
    rw [← Array.all_toList, List.all_map]; rfl
  rw [h1, h2, h3]
theorem s_next {it : Operand} {isStr : Bool} (R : Runner G) (hr : Rel P w0 ρ s w) (he : EvR P ρ s.next A e) (hx : okOpd P it = true) (ho : o.op = .next it isStr) (hg : G (oNext it isStr A k) s) :
    Goes P w0 G k ρ s ((execOp e o).run P w) := by
  unfold oNext at hg
  simp only [execOp, ho]
  refine GoesV.goes ?_
  rw [he.eq it hx]
  split at hg
  · rename_i r sp hv
    rw [hv, den]
    obtain ⟨x, hb, hg⟩ := R.gb hg
    have hbr := hr.blk r x hb
    cases x with
    | siter str pos =>
      obtain ⟨b0, b1⟩ := hbr
      have hadr : addrD ρ ⟨r, 0, sp⟩ = ⟨(ρ r).b, 0, sp⟩ := by simp [addrD, b0]
      simp only [Option.map_some, hadr]
      simp only at hg
      cases isStr with
      | false => exact absurd hg R.fail
      | true =>
        simp only [Bool.not_true, Bool.false_eq_true, if_false] at hg
        have hgo := run_getObj' (P := P) b1 (by simp)
        by_cases hp : pos < str.size
        · rw [if_pos hp] at hg
          obtain ⟨_, hg⟩ := R.sb hg
          have hrel := hr.obj_write (o' := .stringIter str (pos + (Utf8.decode str pos).2)) hb (by simp) (x' := .siter str (pos + (Utf8.decode str pos).2)) (fun w' h => ⟨b0, h⟩)
          have : (Instr.next (.pointer (some ⟨(ρ r).b, 0, sp⟩)) true o.type).run P w = .ok (den ρ (.tuple #[.bool true, goInt pos, .int .i32 (Utf8.decode str pos).1])) { w with heap := w.heap.setIfInBounds (ρ r).b (.stringIter str (pos + (Utf8.decode str pos).2)) } := by
            simp only [Instr.next, Sem.run_bind, hgo, Result.andThen_ok, if_pos hp]
            rw [run_setObj' b1 (by simp)]
            simp [den, denA, denL, goInt]
          rw [this]
          exact ⟨_, _, ρ, _, hg, hrel, Ext.refl _ _, Nat.le_refl _, by simp [okV, okA, okL, goInt], rfl⟩
        · rw [if_neg hp] at hg
          have : (Instr.next (.pointer (some ⟨(ρ r).b, 0, sp⟩)) true o.type).run P w = .ok (den ρ (.tuple #[.bool false])) w := by
            simp only [Instr.next, Sem.run_bind, hgo, Result.andThen_ok, if_neg hp]
            simp [den, denA, denL]
          rw [this]
          exact GoesV.val hr (by simp [okV, okA, okL]) hg
    | miter m since seen last =>
      obtain ⟨b0, b1, b2⟩ := hbr
      have hadr : addrD ρ ⟨r, 0, sp⟩ = ⟨(ρ r).b, 0, sp⟩ := by simp [addrD, b0]
      simp only [Option.map_some, hadr]
      simp only at hg
      cases isStr with
      | true => exact absurd hg R.fail
      | false =>
        simp only [Bool.false_eq_true, if_false] at hg
        obtain ⟨es, clock, hm, hg⟩ := withMap_some R hg
        obtain ⟨m1, m2, m3⟩ := map_get hr hm
        have hgo := run_getObj' (P := P) b1 (by simp)
        split at hg
        · exact absurd hg R.fail
        · rename_i hne
          have hch := R.choose hg
          have hleft := filter_map ρ (fun b => !(⟨seen⟩ : Array Nat).contains b) es
          have hcont : ∀ b, (⟨seen⟩ : Array Nat).contains b = seen.contains b := fun b => by simp
          have hold := filter_map ρ (fun b => decide (b < since)) (es.filter fun e => !seen.contains e.born)
          have hnew := filter_map ρ (fun b => decide (b ≥ since)) (es.filter fun e => !seen.contains e.born)
          have hcands : ((if ((⟨es.map (denE ρ)⟩ : Array MapEntry).filter (fun e => !(⟨seen⟩ : Array Nat).contains e.born) |>.filter (fun e => decide (e.born < since))).isEmpty then #[none] else #[]) ++
              (((⟨es.map (denE ρ)⟩ : Array MapEntry).filter (fun e => !(⟨seen⟩ : Array Nat).contains e.born) |>.filter (fun e => decide (e.born < since))) ++ ((⟨es.map (denE ρ)⟩ : Array MapEntry).filter (fun e => !(⟨seen⟩ : Array Nat).contains e.born) |>.filter (fun e => decide (e.born ≥ since)))).map some)
              = (⟨(candsA since seen es).map (Option.map (denE ρ))⟩ : Array (Option MapEntry)) := by
            rw [hleft]
            simp only [hcont]
            rw [hold, hnew]
            exact cands_arr ρ _ _
          have hgone := (gone_eq ρ seen es last).trans (Bool.eq_false_iff.2 hne)
          have hlen : (⟨(candsA since seen es).map (Option.map (denE ρ))⟩ : Array (Option MapEntry)).size = (candsA since seen es).length := by simp
          have hpick : ∀ i w', (candsA since seen es).length ≤ 1 ∧ i = 0 ∧ w' = w ∨ ¬ (candsA since seen es).length ≤ 1 ∧ i < (candsA since seen es).length ∧ w'.heap = w.heap ∧ w'.tape = w.tape ∧ w'.os = w.os ∧ w'.output = w.output →
              (choose (.mapNext (candsA since seen es).length)).run P w = .ok i w' →
              GoesV P w0 G k ρ s ((Instr.next (.pointer (some ⟨(ρ r).b, 0, sp⟩)) false o.type).run P w) := by
            intro i w' hi hrun
            have hrel' : Rel P w0 ρ s w' := by
              rcases hi with ⟨_, _, rfl⟩ | ⟨_, _, h1, h2, h3, h4⟩
              · exact hr
              · exact hr.drawn h1 h2 h3 h4
            have hheap : w'.heap = w.heap := by
              rcases hi with ⟨_, _, rfl⟩ | ⟨_, _, h1, h2, h3, h4⟩
              · rfl
              · exact h1
            have hg := hch i (fun h => by rcases hi with h' | h'; exact h'.2.1; exact absurd h h'.1) (fun h => by rcases hi with h' | h'; exact absurd h'.1 h; exact h'.2.1)
            have hrun1 : (Instr.next (.pointer (some ⟨(ρ r).b, 0, sp⟩)) false o.type).run P w = (match ((candsA since seen es)[i]?).map (Option.map (denE ρ)) with
                | some (some e) => (do setObj (ρ r).b (.mapIter (some (ρ m).b) since ((⟨seen⟩ : Array Nat).push e.born) clock); pure (.tuple #[.bool true, e.key, e.val]) : Sem Value)
                | some none => pure (.tuple #[.bool false])
                | none => stuck "Next: no such candidate").run P w' := by
              simp only [Instr.next, Sem.run_bind, hgo, Result.andThen_ok, m1, hgone, Bool.false_eq_true, if_false, hcands, hlen]
              rw [hrun, Result.andThen_ok]
              have : (⟨(candsA since seen es).map (Option.map (denE ρ))⟩ : Array (Option MapEntry))[i]? = ((candsA since seen es)[i]?).map (Option.map (denE ρ)) := by simp
              rw [this]
              cases h : (candsA since seen es)[i]? with
              | none => simp
              | some c => cases c <;> simp
            rw [hrun1]
            split at hg
            · rename_i en hen
              obtain ⟨_, hg⟩ := R.sb hg
              have hrel := hrel'.obj_write (o' := .mapIter (some (ρ m).b) since ((⟨seen⟩ : Array Nat).push en.born) clock) (x' := .miter m since (seen ++ [en.born]) clock) hb (by simp) (fun w'' h => ⟨b0, by simpa using h, b2⟩)
              have hmem : en ∈ es := by
                have := List.mem_of_getElem? hen
                unfold candsA at this
                simp only [List.mem_append, List.mem_map, List.mem_filter] at this
                rcases this with h | ⟨a, h, h'⟩
                · split at h <;> simp at h
                · simp at h'; subst h'
                  rcases h with h | h <;> exact h.1.1
              obtain ⟨k1, k2⟩ := m2 en hmem
              refine ⟨_, _, ρ, _, hg, hrel, Ext.refl _ _, Nat.le_refl _, ?_, ?_⟩
              · simp only [okV, okA, okL]; exact ⟨trivial, k1, k2, trivial⟩
              · rw [hen]
                simp only [Option.map_some, Sem.run_bind]
                rw [run_setObj' (w := w') (ob := .mapIter (some (ρ m).b) since ⟨seen⟩ last) (by rw [hheap]; exact b1) (by simp)]
                simp [den, denA, denL, denE]
            · rename_i hen
              rw [hen]
              have : (Sem.run P (pure (.tuple #[.bool false]) : Sem Value) w') = .ok (den ρ (.tuple #[.bool false])) w' := by simp [den, denA, denL]
              simp only [Option.map_some, Option.map_none]
              rw [this]
              exact GoesV.val hrel' (by simp [okV, okA, okL]) hg
            · exact absurd hg R.fail
          by_cases hf : (candsA since seen es).length ≤ 1
          · exact hpick 0 w (.inl ⟨hf, rfl, rfl⟩) (by simp [Question.forced, hf])
          · refine hpick (w.tape w.drawn (.mapNext (candsA since seen es).length) % (candsA since seen es).length) { w with drawn := w.drawn + 1 } (.inr ⟨hf, Nat.mod_lt _ (by omega), rfl, rfl, rfl, rfl⟩) ?_
            simp [Question.forced, hf, Question.cut]
    | _ => exact absurd hg R.fail
  · exact absurd hg R.fail

theorem s_entry {it : Operand} (R : Runner G) (hr : Rel P w0 ρ s w) (he : EvR P ρ s.next A e) (hx : okOpd P it = true) (ho : o.op = .entry it) (hg : G (oEntry it A k) s) :
    Goes P w0 G k ρ s ((execOp e o).run P w) := by
  unfold oEntry at hg
  simp only [execOp, ho]
  refine GoesV.goes ?_
  rw [he.eq it hx]
  split at hg
  · rename_i r sp hv
    rw [hv, den]
    obtain ⟨x, hb, hg⟩ := R.gb hg
    have hbr := hr.blk r x hb
    cases x with
    | miter m since seen last =>
      obtain ⟨b0, b1, b2⟩ := hbr
      have hadr : addrD ρ ⟨r, 0, sp⟩ = ⟨(ρ r).b, 0, sp⟩ := by simp [addrD, b0]
      simp only [Option.map_some, hadr]
      simp only at hg
      split at hg
      · exact absurd hg R.fail
      · rename_i stamp hst
        obtain ⟨es, clock, hm, hg⟩ := withMap_some R hg
        obtain ⟨m1, m2, m3⟩ := map_get hr hm
        have hgo := run_getObj' (P := P) b1 (by simp)
        split at hg
        · exact absurd hg R.fail
        · rename_i hcl
          split at hg
          · rename_i en hen
            have hb' : (⟨seen⟩ : Array Nat).back? = some stamp := by rw [← hst]; simp [Array.back?, List.getLast?_eq_getElem?]
            have hfind : (⟨es.map (denE ρ)⟩ : Array MapEntry).find? (fun e => e.born == stamp) = some (denE ρ en) := by
              rw [← Array.find?_toList, List.find?_map]
              have : ((fun e : MapEntry => e.born == stamp) ∘ denE ρ) = fun e => e.born == stamp := rfl
              rw [this, hen]; rfl
            have : (Instr.entry (.pointer (some ⟨(ρ r).b, 0, sp⟩))).run P w = .ok (den ρ (.tuple #[en.key, en.val])) w := by
              simp only [Instr.entry, Sem.run_bind, hgo, Result.andThen_ok, hb', m1]
              have hcl' : (clock != last) = false := by simpa using hcl
              simp [hcl', hfind, den, denA, denL, denE]
            rw [this]
            obtain ⟨k1, k2⟩ := m2 en (List.mem_of_find?_eq_some hen)
            exact GoesV.val hr (by simp only [okV, okA, okL]; exact ⟨k1, k2, trivial⟩) hg
          · exact absurd hg R.fail
    | _ => exact absurd hg R.fail
  · exact absurd hg R.fail
end Go.Ab
