/- Each operation's rule is sound: part six: conversions, maps, iterators, assertions. -/
import Derived.Test.YtooblilpklkpiaaGreatAbOps5
set_option linter.unusedSimpArgs false
set_option linter.unusedVariables false
namespace Go.Ab
variable {P : Program} {w0 : World} {G : HM → St → Prop} {k : Value → HM} {ρ : Env} {s : St} {w : World} {A : Tree Value} {e : Operand → Value} {o : Oper}
theorem bytesL_some : ∀ {l : List Value} {bs : List UInt8}, bytesL l = some bs → ∃ ns : List Int, l = ns.map (Value.int .u8) ∧ bs = ns.map fun n => n.toNat.toUInt8
  | [], bs, h => by simp [bytesL] at h; subst h; exact ⟨[], rfl, rfl⟩
  | v :: l, bs, h => by
    unfold bytesL at h
    split at h
    · rename_i h'; cases h'
    · rename_i b l' heq
      cases heq
      cases hb : bytesL l with
      | none => rw [hb] at h; simp at h
      | some bs' =>
        rw [hb] at h; simp at h; subst h
        obtain ⟨ns, rfl, rfl⟩ := bytesL_some hb
        exact ⟨b :: ns, rfl, rfl⟩
    · simp at h
theorem fold_bytes : ∀ (ns : List Int) (a : ByteArray), ns.foldl (fun (r : ByteArray) n => r.push (UInt8.ofNat n.toNat)) a = ⟨a.data ++ ⟨ns.map fun n => n.toNat.toUInt8⟩⟩
  | [], a => by cases a; simp
  | n :: ns, a => by
    rw [List.foldl_cons, fold_bytes ns]
    cases a with | mk d =>
    simp only [ByteArray.push, List.map_cons]
    congr 1
    apply Array.ext'
    simp [Nat.toUInt8]
theorem s_convert {src dst : TypeId} {x : Operand} (R : Runner G) (hr : Rel P w0 ρ s w) (he : EvR P ρ s.next A e) (hx : okOpd P x = true) (ho : o.op = .convert src dst x) (hg : G (oConvert P src dst x A k) s) :
    Goes P w0 G k ρ s ((execOp e o).run P w) := by
  unfold oConvert at hg
  simp only [execOp, ho]
  refine GoesV.goes ?_
  have h0 := he.ok x hx
  rw [he.eq x hx]
  split at hg
  · exact absurd hg R.fail
  · rename_i el a n c hsrc hdst hv
    have h1 := under_some hsrc (by simp)
    have h2 := under_some hdst (by simp)
    rw [hv] at h0 ⊢
    split at hg
    · rename_i hel
      have h3 := under_some hel (by simp)
      obtain ⟨l, f1, f2, f3⟩ := firstCells_some R hr h0 hg
      obtain ⟨v, hv', hg⟩ := retO_some R f1
      cases hb : bytesL l with
      | none => rw [hb] at hv'; simp at hv'
      | some bs =>
        rw [hb] at hv'
        simp at hv'
        subst hv'
        obtain ⟨ns, rfl, rfl⟩ := bytesL_some hb
        have hl : (ns.map (Value.int .u8)).map (den ρ) = ns.map (Value.int .u8) := by
          rw [List.map_map]; exact List.map_congr_left fun n _ => by simp [den]
        rw [hl] at f3
        have : (convert src dst (den ρ (.slice a n c))).run P w = .ok (den ρ (.string ⟨⟨ns.map fun n => n.toNat.toUInt8⟩⟩)) w := by
          cases a with
          | none =>
            rw [den] at f3
            simp only [Builtin.firstCells, Sem.run_pure, Result.ok.injEq, and_true] at f3
            have hns : ns = [] := by
              have := congrArg Array.size f3
              simp at this
              exact List.eq_nil_of_length_eq_zero this.symm
            subst hns
            rw [den, den]
            simp [convert, run_underlying h1, run_underlying h2, run_underlying h3, Conv.bytesToString]
            rfl
          | some a =>
            rw [den] at f3 ⊢
            simp only [Builtin.firstCells, Nat.mul_one] at f3
            have := run_bytesToString (P := P) w (sAddr ρ a c) n (sCap ρ a c) ns f3
            rw [fold_bytes] at this
            simp only [convert, Sem.run_bind, run_underlying h1, run_underlying h2, run_underlying h3, Result.andThen_ok, this]
            rw [den]
            simp
        rw [this]
        exact GoesV.val hr (by rw [okV]; trivial) hg
    · exact absurd hg R.fail
  · split at hg
    · rename_i hp
      obtain ⟨v, hv, hg⟩ := retO_some R hg
      obtain ⟨h1, h2⟩ := pure_run (w := w) hv s.next ρ
      rw [(plain_den s.next ρ hp).1, h1]
      exact GoesV.val hr h2 hg
    · exact absurd hg R.fail

/-! maps -/
theorem withMap_some (R : Runner G) {r : Nat} {f : List MapEntry → Nat → HM} (h : G (withMap r f) s) : ∃ es c, s.h.get r = some (.map es c) ∧ G (f es c) s := by
  obtain ⟨x, hx, hg⟩ := R.gb h
  cases x with
  | map es c => exact ⟨es, c, hx, hg⟩
  | _ => exact absurd hg R.fail
theorem run_getObj' {r : Nat} {ob : Obj} (h : w.heap[r]? = some ob) (hn : ∀ c t f, ob ≠ .cells c t f) : (getObj r).run P w = .ok ob w := by
  simp only [getObj, Sem.run, h]
theorem run_setObj' {r : Nat} {ob o' : Obj} (h : w.heap[r]? = some ob) (hn : ∀ c t f, ob ≠ .cells c t f) : (setObj r o').run P w = .ok () { w with heap := w.heap.setIfInBounds r o' } := by
  simp only [setObj, Sem.run, h]
theorem Rel.obj_write (hr : Rel P w0 ρ s w) {r : Nat} {x x' : Blk} {o' : Obj} (hb : s.h.get r = some x) (hx : ∀ e n c, x ≠ .cells e n c) (hx' : ∀ w', w'.heap[(ρ r).b]? = some o' → BR P ρ s.next (ρ r) w' x') :
    Rel P w0 ρ ⟨s.h.upd (some x') r, s.next⟩ { w with heap := w.heap.setIfInBounds (ρ r).b o' } := by
  have hlt := hr.b_lt hb
  refine hr.write hb ?_ (hx' _ (by simp [hlt])) (fun c hc => by simp [Array.getElem?_setIfInBounds, Ne.symm hc]) (by simp) rfl rfl rfl
  by_cases h : P.globals.size ≤ r
  · exact h
  · obtain ⟨e, n, c, h⟩ := hr.low r x hb (by omega)
    exact absurd h (hx e n c)
theorem keyPlain_some {kt : TypeId} {key : Value} (h : keyPlain P kt key = true) : plain key = true ∧ (∀ b, (Instr.checkKey b 10000 kt key).run P w = .ok () w) ∧ ∃ d, P.underlying kt = some d := by
  simp only [keyPlain, Bool.and_eq_true] at h
  have h1 := prunU_run (w := w) h.1.2
  have h2 := prunU_run (w := w) h.2
  refine ⟨h.1.1, fun b => by cases b; exact h2; exact h1, ?_⟩
  cases e : P.underlying kt with
  | some d => exact ⟨d, rfl⟩
  | none =>
    have key : ∀ n, (Instr.checkKey true (n + 1) kt key).run P w = .ok () w → False := fun n h => by
      rw [Instr.checkKey] at h
      simp [underlying, e] at h
    exact (key 9999 h1).elim
theorem same_equal' {kt : TypeId} {d : TypeDesc} (hd : P.underlying kt = some d) {x y : Value} {b b' : Bool} (n : Nat) (h : Instr.sameNow d x y = some b) (h'' : (Op.equalIn (n + 1) kt x y).run P w = .ok b' w) : b = b' := by
  unfold Instr.sameNow at h
  rw [Op.equalIn, Sem.run_bind, run_underlying hd, Result.andThen_ok] at h''
  split at h
  · split at h
    · rename_i hk
      simp at h; subst h
      subst hk
      simp at h''
      exact h''
    · simp at h
  · simp at h; subst h
    simp at h''
    exact h''
  · simp at h; subst h
    simp at h''
    exact h''
  · simp at h
theorem same_equal {kt : TypeId} {d : TypeDesc} (hd : P.underlying kt = some d) {x y : Value} {b b' : Bool} (h : Instr.sameNow d x y = some b) (h' : (Op.equal kt x y).run P w = .ok b' w) : b = b' :=
  same_equal' hd 9999 h h'
def resD (ρ : Env) (r : Option (Nat × Value)) : Option (Nat × Value) := r.map fun p => (p.1, den ρ p.2)
theorem findA_some {kt : TypeId} {d : TypeDesc} {key : Value} (hd : P.underlying kt = some d) : ∀ {es : List MapEntry} {i : Nat} {r : Option (Nat × Value)}, findA P kt key es i = some r →
    (Instr.findAsking kt key (es.map (denE ρ)) i).run P w = .ok (resD ρ r) w ∧ (∀ q, Instr.findNow d key (es.map (denE ρ)) i = some q → q = resD ρ r) ∧
    (∀ j v, r = some (j, v) → i ≤ j ∧ ∃ en, es[j - i]? = some en ∧ plain en.key = true ∧ en.val = v)
  | [], i, r, h => by
    simp [findA] at h; subst h
    exact ⟨rfl, fun q hq => by simp [Instr.findNow] at hq; subst hq; rfl, fun j v h => by simp at h⟩
  | en :: es, i, r, h => by
    rw [findA] at h
    split at h
    · rename_i hp
      have hk : den ρ en.key = en.key := (plain_den 0 ρ hp).1
      split at h
      · rename_i hb
        have hb' := prunB_run (w := w) hb
        simp at h; subst h
        refine ⟨?_, fun q hq => ?_, fun j v h => ?_⟩
        · rw [List.map_cons, Instr.findAsking]
          simp [denE, hk, hb', resD]
        · rw [List.map_cons, Instr.findNow] at hq
          split at hq
          · simp at hq; subst hq; rfl
          · rename_i hs
            simp only [denE, hk] at hs
            have := same_equal hd hs hb'
            simp at this
          · simp at hq
        · simp at h
          obtain ⟨rfl, rfl⟩ := h
          exact ⟨Nat.le_refl _, en, by simp, hp, rfl⟩
      · rename_i hb
        have hb' := prunB_run (w := w) hb
        obtain ⟨h1, h2, h3⟩ := findA_some hd h
        refine ⟨?_, fun q hq => ?_, fun j v h => ?_⟩
        · rw [List.map_cons, Instr.findAsking]
          simp [denE, hk, hb']
          exact h1
        · rw [List.map_cons, Instr.findNow] at hq
          split at hq
          · rename_i hs
            simp only [denE, hk] at hs
            have := same_equal hd hs hb'
            simp at this
          · exact h2 q hq
          · simp at hq
        · obtain ⟨g1, en', g2, g3, g4⟩ := h3 j v h
          refine ⟨by omega, en', ?_, g3, g4⟩
          rw [show j - i = (j - (i + 1)) + 1 from by omega, List.getElem?_cons_succ]; exact g2
      · simp at h
    · simp at h
theorem findKey_run {kt : TypeId} {key : Value} (hd : ∃ d, P.underlying kt = some d) {es : List MapEntry} {r : Option (Nat × Value)} (h : findA P kt key es 0 = some r) :
    (Instr.findKey kt key (es.map (denE ρ))).run P w = .ok (resD ρ r) w := by
  obtain ⟨d, hd⟩ := hd
  obtain ⟨h1, h2, _⟩ := findA_some (ρ := ρ) (w := w) hd h
  simp only [Instr.findKey, Sem.run_bind, run_underlying hd, Result.andThen_ok]
  cases hn : Instr.findNow d key (es.map (denE ρ)) 0 with
  | none => exact h1
  | some q => rw [h2 q hn]; rfl
/-- What a look-up hands back. -/
theorem lookFin_some (R : Runner G) {et : TypeId} {ok : Bool} {r : Option (Nat × Value)} (hv : ∀ j v, r = some (j, v) → okV s.next v) (hg : G (lookFin P et ok r k) s) :
    ∃ V, G (k V) s ∧ okV s.next V ∧ ((∃ j v, r = some (j, v) ∧ den ρ V = if ok then .tuple #[den ρ v, .bool true] else den ρ v) ∨
      (r = none ∧ ∃ z, (zeroValue et).run P w = .ok z w ∧ den ρ V = if ok then .tuple #[z, .bool false] else z)) := by
  unfold lookFin at hg
  cases r with
  | some p =>
    obtain ⟨j, v⟩ := p
    have hv' := hv j v rfl
    refine ⟨_, hg, ?_, .inl ⟨j, v, rfl, ?_⟩⟩
    · cases ok
      · simpa using hv'
      · simp [okV, okA, okL]; exact hv'
    · cases ok <;> simp [den, denA, denL]
  | none =>
    simp only at hg
    split at hg
    · rename_i z hz
      split at hg
      · rename_i hp
        obtain ⟨p1, p2⟩ := plain_den s.next ρ hp
        refine ⟨_, hg, ?_, .inr ⟨rfl, z, zeroOf_some hz, ?_⟩⟩
        · cases ok
          · simpa using p2
          · simp [okV, okA, okL]; exact p2
        · cases ok <;> simp [den, denA, denL, p1]
      · exact absurd hg R.fail
    · exact absurd hg R.fail
theorem map_get (hr : Rel P w0 ρ s w) {r : Nat} {es : List MapEntry} {c : Nat} (h : s.h.get r = some (.map es c)) : (getObj (ρ r).b).run P w = .ok (.map ⟨es.map (denE ρ)⟩ c) w ∧ (∀ e ∈ es, okV s.next e.key ∧ okV s.next e.val) ∧ w.heap[(ρ r).b]? = some (.map ⟨es.map (denE ρ)⟩ c) := by
  obtain ⟨h1, h2⟩ := hr.blk r _ h
  exact ⟨run_getObj' h1 (by simp), h2, h1⟩
theorem s_lookup {t : TypeId} {x ix : Operand} {ok : Bool} (R : Runner G) (hr : Rel P w0 ρ s w) (he : EvR P ρ s.next A e) (hx : okOpd P x = true) (hi : okOpd P ix = true) (ho : o.op = .lookup t x ix ok) (hg : G (oLookup P t x ix ok A k) s) :
    Goes P w0 G k ρ s ((execOp e o).run P w) := by
  unfold oLookup lookupA at hg
  simp only [execOp, ho]
  refine GoesV.goes ?_
  have h0 := he.ok x hx
  rw [he.eq x hx, he.eq ix hi]
  split at hg
  · rename_i kt et hu
    have hu' := under_some hu (by simp)
    split at hg
    · rename_i hk hv
      obtain ⟨k1, k2, k3⟩ := keyPlain_some (w := w) hk
      rw [hv, (plain_den s.next ρ k1).1]
      obtain ⟨V, v1, v2, v3⟩ := lookFin_some (ρ := ρ) (w := w) R (fun j v h => by simp at h) hg
      have hf := findKey_run (ρ := ρ) (w := w) (key := ev A ix) k3 (es := []) (r := none) (by simp [findA])
      rcases v3 with ⟨j, v, h, _⟩ | ⟨_, z, z1, z2⟩
      · simp at h
      · have : (Instr.lookup t (den ρ (.map none)) (ev A ix) ok).run P w = .ok (den ρ V) w := by
          rw [z2, den]
          simp only [Instr.lookup, Sem.run_bind, run_underlying hu', Result.andThen_ok, Option.map_none, Sem.run_pure, k2]
          simp only [List.map_nil] at hf
          simp [hf, resD, z1]
        rw [this]
        exact GoesV.val hr v2 v1
    · rename_i r' hk hv
      obtain ⟨k1, k2, k3⟩ := keyPlain_some (w := w) hk
      rw [hv, (plain_den s.next ρ k1).1]
      obtain ⟨es, c, hb, hg⟩ := withMap_some R hg
      obtain ⟨m1, m2, m3⟩ := map_get hr hb
      split at hg
      · rename_i r hf
        have hf' := findKey_run (ρ := ρ) (w := w) k3 hf
        obtain ⟨d, hd⟩ := k3
        have hq := (findA_some (ρ := ρ) (w := w) hd hf).2.2
        obtain ⟨V, v1, v2, v3⟩ := lookFin_some (ρ := ρ) (w := w) R (fun j v h => by
          obtain ⟨_, en, g2, _, g4⟩ := hq j v h
          rw [← g4]; exact (m2 en (List.mem_of_getElem? g2)).2) hg
        have : (Instr.lookup t (den ρ (.map (some r'))) (ev A ix) ok).run P w = .ok (den ρ V) w := by
          rcases v3 with ⟨j, v, h, z2⟩ | ⟨h, z, z1, z2⟩
          · subst h
            rw [z2, den]
            simp only [Instr.lookup, Sem.run_bind, run_underlying hu', Result.andThen_ok, Option.map_some, m1, Sem.run_pure, k2]
            simp [hf', resD]
          · subst h
            rw [z2, den]
            simp only [Instr.lookup, Sem.run_bind, run_underlying hu', Result.andThen_ok, Option.map_some, m1, Sem.run_pure, k2]
            simp [hf', resD, z1]
        rw [this]
        exact GoesV.val hr v2 v1
      · exact absurd hg R.fail
    · exact absurd hg R.fail
  · exact absurd hg R.fail
end Go.Ab
