/- Each operation's rule is sound: part three: operators, conversions, literals, slices. -/
import Derived.Test.YtooblilpklkpiaaGreatAbOps2
set_option linter.unusedSimpArgs false
set_option linter.unusedVariables false
namespace Go.Ab
variable {P : Program} {w0 : World} {G : HM → St → Prop} {k : Value → HM} {ρ : Env} {s : St} {w : World} {A : Tree Value} {e : Operand → Value} {o : Oper}

theorem prunV_run : ∀ {x : Sem Value} {v : Value}, prunV P x = some v → x.run P w = .ok v w
  | .pure a, v, h => by simp [prunV] at h; subst h; rfl
  | .program f, v, h => by rw [prunV] at h; exact prunV_run (x := f P) h
  | .load .., v, h => by simp [prunV] at h
  | .store .., v, h => by simp [prunV] at h
  | .new .., v, h => by simp [prunV] at h
  | .shape .., v, h => by simp [prunV] at h
  | .freeze .., v, h => by simp [prunV] at h
  | .frozen .., v, h => by simp [prunV] at h
  | .getObj .., v, h => by simp [prunV] at h
  | .setObj .., v, h => by simp [prunV] at h
  | .choose .., v, h => by simp [prunV] at h
  | .sys .., v, h => by simp [prunV] at h
  | .mark .., v, h => by simp [prunV] at h
  | .halt .., v, h => by simp [prunV] at h
theorem prunB_run : ∀ {x : Sem Bool} {v : Bool}, prunB P x = some v → x.run P w = .ok v w
  | .pure a, v, h => by simp [prunB] at h; subst h; rfl
  | .program f, v, h => by rw [prunB] at h; exact prunB_run (x := f P) h
  | .load .., v, h => by simp [prunB] at h
  | .store .., v, h => by simp [prunB] at h
  | .new .., v, h => by simp [prunB] at h
  | .shape .., v, h => by simp [prunB] at h
  | .freeze .., v, h => by simp [prunB] at h
  | .frozen .., v, h => by simp [prunB] at h
  | .getObj .., v, h => by simp [prunB] at h
  | .setObj .., v, h => by simp [prunB] at h
  | .choose .., v, h => by simp [prunB] at h
  | .sys .., v, h => by simp [prunB] at h
  | .mark .., v, h => by simp [prunB] at h
  | .halt .., v, h => by simp [prunB] at h
theorem prunU_run : ∀ {x : Sem Unit}, prunU P x = true → x.run P w = .ok () w
  | .pure a, h => rfl
  | .program f, h => by rw [prunU] at h; exact prunU_run (x := f P) h
  | .load .., h => by simp [prunU] at h
  | .store .., h => by simp [prunU] at h
  | .new .., h => by simp [prunU] at h
  | .shape .., h => by simp [prunU] at h
  | .freeze .., h => by simp [prunU] at h
  | .frozen .., h => by simp [prunU] at h
  | .getObj .., h => by simp [prunU] at h
  | .setObj .., h => by simp [prunU] at h
  | .choose .., h => by simp [prunU] at h
  | .sys .., h => by simp [prunU] at h
  | .mark .., h => by simp [prunU] at h
  | .halt .., h => by simp [prunU] at h
theorem pure_run {x : Sem Value} {v : Value} (h : pure? P x = some v) (n : Nat) (ρ : Env) : x.run P w = .ok (den ρ v) w ∧ okV n v := by
  unfold pure? at h
  cases e : prunV P x with
  | none => rw [e] at h; simp at h
  | some u =>
    rw [e] at h
    simp [Option.filter] at h
    obtain ⟨h1, rfl⟩ := h
    obtain ⟨h2, h3⟩ := plain_den n ρ h1
    exact ⟨by rw [h2]; exact prunV_run e, h3⟩
theorem eqA_run {t : TypeId} {x y : Value} {b : Bool} (hx : okV s.next x) (hy : okV s.next y) (h : eqA P t x y = some b) : (Op.equal t (den ρ x) (den ρ y)).run P w = .ok b w := by
  have step : ∀ d, (Op.equalIn (d + 1) t (den ρ x) (den ρ y)).run P w = .ok b w := by
    intro d
    unfold eqA at h
    split at h
    case h_1 =>
      have hu' := under_some (P := P) (t := t) (by assumption) (by simp)
      simp at h; subst h
      rename_i z _
      cases z <;> simp [Op.equalIn, run_underlying hu', den]
    case h_2 =>
      have hu' := under_some (P := P) (t := t) (by assumption) (by simp)
      simp at h; subst h
      rename_i q hn _
      cases q with
      | none => exact (hn rfl).elim
      | some q => simp [Op.equalIn, run_underlying hu', den]
    case h_3 =>
      have hu' := under_some (P := P) (t := t) (by assumption) (by simp)
      rename_i a c _
      split at h
      · rename_i hc
        simp at h; subst h
        rw [okV] at hx hy
        have h1 := (hx a rfl).2
        have h2 := (hy c rfl).2
        have hbl : (addrD ρ a).block = (addrD ρ c).block := by simp [addrD, hc.1]
        have hoff : (addrD ρ a == addrD ρ c) = (a.off == c.off) := by
          rw [Bool.eq_iff_iff]
          simp [addrD, hc.1, h1, h2]
        simp [Op.equalIn, run_underlying hu', den, run_sizeOf' hc.2.1, hc.2.2, sameAddr, hbl, hoff]
      · simp at h
    case h_4 =>
      have hu' := under_some (P := P) (t := t) (by assumption) (by simp)
      simp at h; subst h
      rename_i z _ _ _
      cases z <;> simp [Op.equalIn, run_underlying hu', den]
    case h_5 =>
      have hu' := under_some (P := P) (t := t) (by assumption) (by simp)
      simp at h; subst h
      rename_i z _ _ _ _ hn _
      cases z with
      | none => exact (hn rfl).elim
      | some z => simp [Op.equalIn, run_underlying hu', den]
    case h_6 =>
      have hu' := under_some (P := P) (t := t) (by assumption) (by simp)
      simp at h; subst h
      rename_i z _
      cases z <;> simp [Op.equalIn, run_underlying hu', den]
    case h_7 =>
      have hu' := under_some (P := P) (t := t) (by assumption) (by simp)
      simp at h; subst h
      rename_i z hn _
      cases z with
      | none => exact (hn rfl).elim
      | some z => simp [Op.equalIn, run_underlying hu', den]
    case h_13 => simp at h
    all_goals
      have hu' := under_some (P := P) (t := t) (by assumption) (by simp)
      simp at h; subst h
      simp [Op.equalIn, run_underlying hu', den]
  exact step 9999

theorem eqA_agg (t : TypeId) (c : Array Value) (y : Value) : eqA P t (.agg c) y = none := by
  unfold eqA; split <;> first | rfl | contradiction
theorem eqA_nil (t : TypeId) : eqA P t .nilIface .nilIface = none := by
  unfold eqA; split <;> first | rfl | contradiction
theorem guard_run {op : BinOp} {t : TypeId} {xo yo : Operand} {u v : Value} (h1 : ∀ c, u ≠ .agg c) (h2 : ¬ (u = .nilIface ∧ v = .nilIface)) : (eqGuard op t xo yo u v).run P w = .ok () w := by
  have main : ∀ op : BinOp, op = .eql ∨ op = .neq → (eqGuard op t xo yo u v).run P w = .ok () w := by
    intro op hop
    rcases hop with rfl | rfl
    · cases u with
      | nilIface => cases v <;> first | rfl | exact absurd ⟨rfl, rfl⟩ h2
      | agg c => exact absurd rfl (h1 c)
      | _ => rfl
    · cases u with
      | nilIface => cases v <;> first | rfl | exact absurd ⟨rfl, rfl⟩ h2
      | agg c => exact absurd rfl (h1 c)
      | _ => rfl
  cases op <;> first | rfl | exact main _ (.inl rfl) | exact main _ (.inr rfl)
theorem guard_none {op : BinOp} {t : TypeId} {xo yo : Operand} {x y : Value} {b : Bool} (h : eqA P t x y = some b) : (eqGuard op t xo yo (den ρ x) (den ρ y)).run P w = .ok () w := by
  refine guard_run ?_ ?_
  · intro c hc
    cases x with
    | agg c => rw [eqA_agg] at h; simp at h
    | slice a l c => cases a <;> simp [den] at hc
    | _ => simp [den] at hc
  · rintro ⟨h1, h2⟩
    have h1' : x = .nilIface := by
      cases x with
      | slice a l c => cases a <;> simp [den] at h1
      | nilIface => rfl
      | _ => simp [den] at h1
    have h2' : y = .nilIface := by
      cases y with
      | slice a l c => cases a <;> simp [den] at h2
      | nilIface => rfl
      | _ => simp [den] at h2
    subst h1' h2'
    rw [eqA_nil] at h; simp at h
theorem binOp_eq {op : BinOp} {t : TypeId} {x y : Value} (hop : op = .eql ∨ op = .neq) {b : Bool} (hx : okV s.next x) (hy : okV s.next y) (h : eqA P t x y = some b) :
    (binOp op t (den ρ x) (den ρ y)).run P w = .ok (.bool (if op matches .eql then b else !b)) w := by
  have h0 := eqA_run (w := w) (ρ := ρ) hx hy h
  have hs : ∀ (u v : Value), (∀ k a k' b, ¬ (u = .int k a ∧ v = .int k' b)) → (∀ k a k' b, ¬ (u = .float k a ∧ v = .float k' b)) → (∀ k a b k' c d, ¬ (u = .complex k a b ∧ v = .complex k' c d)) → (∀ a b, ¬ (u = .string a ∧ v = .string b)) →
      binOp .eql t u v = (do pure (.bool (← Op.equal t u v))) ∧ binOp .neq t u v = (do pure (.bool (!(← Op.equal t u v)))) := by
    intro u v h1 h2 h3 h4
    cases u <;> cases v <;> first
      | exact ⟨rfl, rfl⟩
      | exact absurd ⟨rfl, rfl⟩ (h1 _ _ _ _)
      | exact absurd ⟨rfl, rfl⟩ (h2 _ _ _ _)
      | exact absurd ⟨rfl, rfl⟩ (h3 _ _ _ _ _ _)
      | exact absurd ⟨rfl, rfl⟩ (h4 _ _)
  have hn : (∀ k a, x ≠ .int k a) ∧ (∀ k a, x ≠ .float k a) ∧ (∀ k a b, x ≠ .complex k a b) ∧ (∀ a, x ≠ .string a) := by
    refine ⟨fun k a e => ?_, fun k a e => ?_, fun k a b e => ?_, fun a e => ?_⟩ <;> subst e <;> unfold eqA at h <;> split at h <;> first | contradiction | (simp at h; done)
  have hd : (∀ k a, den ρ x ≠ .int k a) ∧ (∀ k a, den ρ x ≠ .float k a) ∧ (∀ k a b, den ρ x ≠ .complex k a b) ∧ (∀ a, den ρ x ≠ .string a) := by
    cases x with
    | slice a l c => cases a <;> simp [den]
    | int k a => exact absurd rfl (hn.1 k a)
    | float k a => exact absurd rfl (hn.2.1 k a)
    | complex k a b => exact absurd rfl (hn.2.2.1 k a b)
    | string a => exact absurd rfl (hn.2.2.2 a)
    | _ => simp [den]
  obtain ⟨e1, e2⟩ := hs (den ρ x) (den ρ y) (fun k a k' b h => hd.1 k a h.1) (fun k a k' b h => hd.2.1 k a h.1) (fun k a b k' c d h => hd.2.2.1 k a b h.1) (fun a b h => hd.2.2.2 a h.1)
  rcases hop with rfl | rfl
  · rw [e1]; simp [h0]
  · rw [e2]; simp [h0]
theorem binA_run {op : BinOp} {t : TypeId} {xo yo : Operand} {x y v : Value} (hx : okV s.next x) (hy : okV s.next y) (h : binA P op t xo yo x y = some v) :
    (do eqGuard op t xo yo (den ρ x) (den ρ y); binOp op t (den ρ x) (den ρ y) : Sem Value).run P w = .ok (den ρ v) w ∧ okV s.next v := by
  unfold binA at h
  split at h
  · rename_i k a k' b
    have hg : (eqGuard op t xo yo (den ρ (.int k a)) (den ρ (.int k' b))).run P w = .ok () w := guard_run (by simp [den]) (by simp [den])
    rw [Sem.run_bind, hg, Result.andThen_ok]
    unfold intA at h
    split at h
    case h_9 =>
      have := pure_run (w := w) h s.next ρ
      rw [Sem.run_bind] at this
      have hg' := fun op => guard_run (P := P) (w := w) (op := op) (t := t) (xo := xo) (yo := yo) (u := .int k a) (v := .int k' b) (by simp) (by simp)
      rw [hg' _, Result.andThen_ok] at this
      rw [den, den]; exact this
    all_goals
      rename_i hk
      have hk' : k = k' := by simpa using hk
      subst hk'
      simp only [Option.some.injEq] at h
      subst h
      simp [den, okV, binOp, Op.intArith, Op.intCmp]
  · rename_i n1
    unfold eqOr at h
    split at h
    · rename_i hp
      simp only [Bool.and_eq_true] at hp
      rw [(plain_den s.next ρ hp.1).1, (plain_den s.next ρ hp.2).1]
      exact pure_run h s.next ρ
    · split at h
      · cases hb : eqA P t x y with
        | none => rw [hb] at h; simp at h
        | some b =>
          rw [hb] at h; simp at h; subst h
          rw [Sem.run_bind, guard_none hb, Result.andThen_ok, binOp_eq (.inl rfl) hx hy hb]
          simp [den, okV]
      · cases hb : eqA P t x y with
        | none => rw [hb] at h; simp at h
        | some b =>
          rw [hb] at h; simp at h; subst h
          rw [Sem.run_bind, guard_none hb, Result.andThen_ok, binOp_eq (.inr rfl) hx hy hb]
          simp [den, okV]
      · simp at h
theorem s_bin {op : BinOp} {t u : TypeId} {x y : Operand} (R : Runner G) (hr : Rel P w0 ρ s w) (he : EvR P ρ s.next A e) (hx : okOpd P x = true) (hy : okOpd P y = true) (ho : o.op = .binOp op t x y u) (hg : G (oBin P op t x y u A k) s) :
    Goes P w0 G k ρ s ((execOp e o).run P w) := by
  unfold oBin at hg
  obtain ⟨v, hv, hg⟩ := retO_some R hg
  obtain ⟨h1, h2⟩ := binA_run (w := w) (ρ := ρ) (he.ok x hx) (he.ok y hy) hv
  simp only [execOp, ho]
  refine GoesV.goes ?_
  rw [he.eq x hx, he.eq y hy, h1]
  exact GoesV.val hr h2 hg
theorem s_un {op : UnOp} {t : TypeId} {x : Operand} (R : Runner G) (hr : Rel P w0 ρ s w) (he : EvR P ρ s.next A e) (hx : okOpd P x = true) (ho : o.op = .unOp op t x) (hg : G (oUn P op t x A k) s) :
    Goes P w0 G k ρ s ((execOp e o).run P w) := by
  unfold oUn at hg
  simp only [execOp, ho]
  refine GoesV.goes ?_
  rw [he.eq x hx]
  split at hg
  · rename_i b hb
    rw [hb]
    split at hg
    · have : (Op.unary .not (den ρ (.bool b))).run P w = .ok (den ρ (.bool !b)) w := by simp [Op.unary, den]
      rw [this]
      exact GoesV.val hr (by rw [okV]; trivial) hg
    · exact absurd hg R.fail
  · split at hg
    · rename_i hp
      obtain ⟨v, hv, hg⟩ := retO_some R hg
      rw [(plain_den s.next ρ hp).1]
      obtain ⟨h1, h2⟩ := pure_run (w := w) hv s.next ρ
      rw [h1]
      exact GoesV.val hr h2 hg
    · exact absurd hg R.fail
end Go.Ab
