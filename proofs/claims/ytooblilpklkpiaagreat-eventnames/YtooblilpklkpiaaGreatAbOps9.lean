/- Each operation's rule is sound: part nine: builtins. -/
import Derived.Test.YtooblilpklkpiaaGreatAbOps8
set_option linter.unusedSimpArgs false
set_option linter.unusedVariables false
namespace Go.Ab
variable {P : Program} {w0 : World} {G : HM → St → Prop} {k : Value → HM} {ρ : Env} {s : St} {w : World} {A : Tree Value} {e : Operand → Value} {o : Oper}
theorem appendOn_some (R : Runner G) (hr : Rel P w0 ρ s w) {st xt elem size : Nat} {ts : List TypeId} {vs : List Value} {T : TypeId} {base : Option Addr} {len cap n : Nat} {x : Value}
    (hst : P.underlying st = some (.slice elem)) (hxt : ∃ d, P.underlying xt = some d ∧ (∀ k, d ≠ .int k)) (hszo : szO P elem = some size)
    (hb : okV s.next (.slice base len cap)) (hx : okV s.next x) (hn : lenA x = some n) (hg : G (appendOn P elem size base len cap n x k) s) :
    GoesV P w0 G k ρ s ((Builtin.append_ ⟨st :: xt :: ts⟩ T ⟨den ρ (.slice base len cap) :: den ρ x :: vs⟩).run P w) := by
  unfold appendOn at hg
  split at hg
  · exact absurd hg R.fail
  · rename_i hc
    simp only [not_or, not_and, Nat.not_lt] at hc
    obtain ⟨c1, c2, c3, c4, c5⟩ := hc
    have hz : ∃ z, zeroOf P elem = some z ∧ z.cells.size = size := by
      cases hz : zeroOf P elem with
      | none => rw [hz] at c4; simp at c4
      | some z => rw [hz] at c4; exact ⟨z, rfl, by simpa using c4⟩
    obtain ⟨z, hz1, hz2⟩ := hz
    have H : AppHyp P st xt elem size z := ⟨hst, hxt, hszo, hz1, hz2, c1⟩
    have c5' : base = none → cap = 0 := fun h => by subst h; simpa using c5
    split at hg
    · rename_i hlit
      have hden : den ρ (.slice base len cap) = .slice (base.map (addrD ρ)) len (cap / 3) := by
        cases base with
        | none => have := c5' rfl; subst this; rw [den]; rfl
        | some a => rw [slice_den (by omega)]; simp [sCap, hlit]
      split at hg
      · rename_i hle
        have hle := Nat.le_of_ble_eq_true hle
        refine inPlace_some R hr H hb hx hn (by omega) c5' (fun a ha => by subst ha; simp [sCap, hlit]; exact hle) (fun h => by have := c5' h; subst this; omega) hg
      · rename_i hle
        have hle' : ¬ len + n ≤ cap / 3 := fun h => hle (Nat.ble_eq_true_of_le h)
        exact grow_some R hr H hb hx hn c2 hden hle' hg
    · rename_i hlit
      split at hg
      · exact absurd hg R.fail
      · rename_i hcap
        have hcap' : cap = 1 := by simpa using hcap
        subst hcap'
        cases base with
        | none => exact absurd hg R.fail
        | some a =>
          simp only at hg
          obtain ⟨el, known, c, hblk, hg'⟩ := cellsB_some R hg
          clear hg
          have hg := hg'
          clear hg'
          split at hg
          · rename_i hcc
            obtain ⟨q1, q2, q3⟩ := hcc
            subst q1
            rw [okV] at hb
            have ha := hb a rfl
            have hden : den ρ (.slice (some a) len 1) = .slice (some (addrD ρ a)) len (roomD ρ a) := by rw [slice_den (by omega)]; simp [sCap]
            split at hg
            · rename_i hkn
              have hkn := Nat.le_of_ble_eq_true hkn
              -- known cells: in place
              obtain ⟨b1, b2, cs, b3, b4, b5⟩ := hr.blk _ _ hblk
              have hsz := (szO_some (w := w) hszo).2
              rw [hsz] at b1
              have hp : 0 < size := Nat.pos_of_ne_zero c3
              obtain ⟨q, hq⟩ : ∃ q, a.off = q * size := ⟨a.off / size, by rw [Nat.div_mul_cancel (Nat.dvd_of_mod_eq_zero q2)]⟩
              have hroom : roomD ρ a = (ρ a.block).cap - q := by unfold roomD; rw [b1, hq, Nat.mul_div_cancel _ hp]
              have : (q + (len + n)) * size ≤ (ρ a.block).cap * size := by rw [Nat.add_mul, ← hq]; rw [b1] at b2; omega
              have := Nat.le_of_mul_le_mul_right this hp
              exact inPlace_some R hr H (by rw [okV]; exact hb) hx hn (by omega) (by simp) (fun a' ha' => by simp at ha'; subst ha'; simp [sCap]; omega) (by simp) hg
            · by_cases hle : len + n ≤ roomD ρ a
              · rw [hden]
                exact kill_place R hr H ha hx hn hblk c3 q2 q3 hle hg
              · exact grow_some R hr H (by rw [okV]; exact hb) hx hn c2 hden hle hg
          · exact absurd hg R.fail
theorem eraseIdx_map' {α β : Type} (f : α → β) : ∀ (l : List α) (i : Nat), (l.map f).eraseIdx i = (l.eraseIdx i).map f
  | [], _ => rfl
  | _ :: _, 0 => rfl
  | a :: l, i + 1 => by simp [eraseIdx_map' f l i]
theorem erase_map (ρ : Env) (es : List MapEntry) (i : Nat) : (⟨es.map (denE ρ)⟩ : Array MapEntry).eraseIdxIfInBounds i = ⟨(es.eraseIdx i).map (denE ρ)⟩ := by
  apply Array.ext'
  unfold Array.eraseIdxIfInBounds
  split
  · rw [Array.toList_eraseIdx, eraseIdx_map']
  · rename_i h
    simp at h
    rw [List.eraseIdx_of_length_le h]
theorem zeroCells_den {z : Value} (hz : plain z = true) (n m : Nat) (ρ : Env) : okL m (Builtin.zeroCells z.cells n).toList ∧ (Builtin.zeroCells z.cells n).toList.map (den ρ) = (Builtin.zeroCells z.cells n).toList := by
  obtain ⟨h1, h2⟩ := zeros_den hz (n * z.cells.size) m ρ
  exact ⟨h1, congrArg Array.toList h2⟩
theorem pure_args {T : TypeId} {ats : List TypeId} {args : List Value} {f : Sem Value} (R : Runner G) (hr : Rel P w0 ρ s w) (hg : G (retO (pure? P f) k) s) : GoesV P w0 G k ρ s (f.run P w) := by
  obtain ⟨v, hv, hg⟩ := retO_some R hg
  obtain ⟨h1, h2⟩ := pure_run (w := w) hv s.next ρ
  rw [h1]
  exact GoesV.val hr h2 hg
theorem GoesV.next {x : Sem Value} (h : GoesV P w0 G k ρ s (x.run P w)) : Goes P w0 G k ρ s ((do let v ← x; pure (.value v) : Sem Next).run P w) := h.goes
theorem s_builtin {c : Call} {b : Builtin} (R : Runner G) (hr : Rel P w0 ρ s w) (he : EvR P ρ s.next A e) (hargs : ∀ x ∈ c.args.toList, okOpd P x = true) (ho : o.op = .call c) (hc : c.callee = .builtin b)
    (hg : G (builtinA P b c.argTypes.toList (c.args.toList.map (ev A)) k) s) :
    Goes P w0 G k ρ s ((execOp e o).run P w) := by
  rw [builtin_run ho hc]
  obtain ⟨a1, a2⟩ := args_ev he hargs
  rw [a1]
  have hty : c.argTypes = ⟨c.argTypes.toList⟩ := by cases c.argTypes; rfl
  rw [hty]
  generalize c.argTypes.toList = tys at *
  generalize c.args.toList.map (ev A) = args at *
  generalize (c.args.map fun | .const _ => true | _ => false) = consts
  unfold builtinA at hg
  cases b with
  | append =>
    refine GoesV.goes (x := Builtin.append_ ⟨tys⟩ o.type ⟨args.map (den ρ)⟩) ?_
    simp only [bAppend] at hg
    split at hg
    · rename_i st xt ts base len cap x vs
      simp only [okL] at a2
      split at hg
      · exact absurd hg R.fail
      · exact absurd hg R.fail
      · rename_i elem hu n1 n2
        have hu' := under_some hu (by simp)
        have hx' : ∃ d, P.underlying xt = some d ∧ (∀ k, d ≠ .int k) := ⟨_, under_some rfl n2, fun k h => n1 k h⟩
        split at hg
        · rename_i n size hn hsz
          simp only [List.map_cons]
          exact appendOn_some R hr hu' hx' hsz a2.1 a2.2.1 hn hg
        · exact absurd hg R.fail
      · exact absurd hg R.fail
    · exact absurd hg R.fail
  | len =>
    refine GoesV.goes (x := Builtin.len_ ⟨tys⟩ o.type ⟨args.map (den ρ)⟩) ?_
    simp only [bLen] at hg
    split at hg
    · rename_i t ts x vs
      have e1 : (⟨t :: ts⟩ : Array TypeId)[0]? = some t := rfl
      have e2 : (⟨(x :: vs).map (den ρ)⟩ : Array Value)[0]? = some (den ρ x) := rfl
      have fin : ∀ n : Nat, (Builtin.len_ ⟨t :: ts⟩ o.type ⟨(x :: vs).map (den ρ)⟩).run P w = .ok (goInt n) w → G (k (goInt n)) s → GoesV P w0 G k ρ s ((Builtin.len_ ⟨t :: ts⟩ o.type ⟨(x :: vs).map (den ρ)⟩).run P w) := fun n h hg => by
        rw [h]
        have : goInt n = den ρ (goInt n) := by simp [goInt, den]
        rw [this]
        exact GoesV.val hr (by simp [goInt, okV]) hg
      split at hg
      · rename_i kt et r hu
        have hu' := under_some hu (by simp)
        obtain ⟨es, cl, hb, hg⟩ := withMap_some R hg
        obtain ⟨m1, _, _⟩ := map_get hr hb
        refine fin es.length ?_ hg
        simp [Builtin.len_, e1, e2, run_underlying hu', den, m1]
      · rename_i el a n cc hu
        have hu' := under_some hu (by simp)
        refine fin n ?_ hg
        cases a <;> simp [Builtin.len_, e1, run_underlying hu', den]
      · rename_i str hu
        have hu' := under_some hu (by simp)
        refine fin str.size ?_ hg
        simp [Builtin.len_, e1, e2, run_underlying hu', den]
      · rename_i n el hu
        have hu' := under_some hu (by simp)
        refine fin n ?_ hg
        simp [Builtin.len_, e1, e2, run_underlying hu']
      · rename_i kt et hu
        have hu' := under_some hu (by simp)
        refine fin 0 ?_ hg
        simp [Builtin.len_, e1, e2, run_underlying hu', den]
      · exact absurd hg R.fail
    · exact absurd hg R.fail
  | copy =>
    refine GoesV.goes (x := Builtin.copy_ ⟨tys⟩ o.type ⟨args.map (den ρ)⟩) ?_
    simp only [bCopy] at hg
    split at hg
    · rename_i dt ts base dl cd src vs
      split at hg
      · exact absurd hg R.fail
      · rename_i hcd
        simp only [okL] at a2
        split at hg
        · rename_i elem sl hu hsl
          have hu' := under_some hu (by simp)
          split at hg
          · rename_i size hsz
            obtain ⟨l, f1, f2, f3⟩ := firstCells_some R hr a2.2.1 hg
            have e1 : (⟨dt :: ts⟩ : Array TypeId)[0]? = some dt := rfl
            have e2 : (⟨(Value.slice base dl cd :: src :: vs).map (den ρ)⟩ : Array Value)[0]? = some (den ρ (.slice base dl cd)) := rfl
            have e3 : (⟨(Value.slice base dl cd :: src :: vs).map (den ρ)⟩ : Array Value)[1]? = some (den ρ src) := rfl
            have hgi : goInt ((Nat.min sl dl : Nat) : Int) = den ρ (goInt ((Nat.min sl dl : Nat) : Int)) := by simp [goInt, den]
            cases base with
            | none =>
              have : (Builtin.copy_ ⟨dt :: ts⟩ o.type ⟨(Value.slice none dl cd :: src :: vs).map (den ρ)⟩).run P w = .ok (den ρ (goInt ((Nat.min sl dl : Nat) : Int))) w := by
                rw [← hgi]
                simp only [Builtin.copy_, e1, e2, e3, den, Sem.run_bind, run_underlying hu', Result.andThen_ok, lenA_run hsl, (szO_some hsz).1, f3, Sem.run_pure]
              rw [this]
              exact GoesV.val hr (by simp [goInt, okV]) f1
            | some a =>
              rw [okV] at a2
              have ha := a2.1 a rfl
              obtain ⟨s', w', g1, g2, g3, g4⟩ := storeN_some R hr ha f2 f1
              have : (Builtin.copy_ ⟨dt :: ts⟩ o.type ⟨(Value.slice (some a) dl cd :: src :: vs).map (den ρ)⟩).run P w = .ok (den ρ (goInt ((Nat.min sl dl : Nat) : Int))) w' := by
                rw [← hgi]
                have hd : den ρ (.slice (some a) dl cd) = .slice (some (addrD ρ a)) dl (sCap ρ a cd) := slice_den hcd
                simp only [Builtin.copy_, e1, e2, e3, hd, Sem.run_bind, run_underlying hu', Result.andThen_ok, lenA_run hsl, (szO_some hsz).1, f3, Sem.run_pure]
                simp [g4]
              rw [this]
              exact ⟨_, s', ρ, w', g1, g2, Ext.refl _ _, by omega, by simp [goInt, okV], rfl⟩
          · exact absurd hg R.fail
        · exact absurd hg R.fail
    · exact absurd hg R.fail
  | delete =>
    refine GoesV.goes (x := Builtin.delete_ ⟨tys⟩ o.type ⟨args.map (den ρ)⟩) ?_
    simp only [bDelete] at hg
    split at hg
    · rename_i t ts r key vs
      simp only [okL] at a2
      split at hg
      · rename_i kt et hu
        have hu' := under_some hu (by simp)
        split at hg
        · rename_i hkp
          obtain ⟨k1, k2, k3⟩ := keyPlain_some (w := w) hkp
          obtain ⟨es, cl, hb, hg⟩ := withMap_some R hg
          obtain ⟨m1, m2, m3⟩ := map_get hr hb
          have e1 : (⟨t :: ts⟩ : Array TypeId)[0]? = some t := rfl
          have e2 : (⟨(Value.map (some r) :: key :: vs).map (den ρ)⟩ : Array Value)[0]? = some (.map (some (ρ r).b)) := by simp [den]
          have e3 : (⟨(Value.map (some r) :: key :: vs).map (den ρ)⟩ : Array Value)[1]? = some key := by simp [(plain_den s.next ρ k1).1]
          have hret : Value.tuple #[] = den ρ (.tuple #[]) := by simp [den, denA, denL]
          split at hg
          · rename_i i v hf
            have hf' := findKey_run (ρ := ρ) (w := w) k3 hf
            obtain ⟨s', h1, h2, h3, h4⟩ := map_write R hr hb (es' := es.eraseIdx i) (fun e' he' => m2 e' (List.mem_of_mem_eraseIdx he')) hg
            refine ⟨_, s', ρ, _, h1, h3, Ext.refl _ _, by omega, by simp [okV, okA, okL], ?_⟩
            rw [← hret]
            have harr : (⟨es.map (denE ρ)⟩ : Array MapEntry).eraseIdxIfInBounds i = ⟨(es.eraseIdx i).map (denE ρ)⟩ := by
              exact erase_map _ _ _
            simp only [Builtin.delete_, e1, e2, e3, Sem.run_bind, run_underlying hu', Result.andThen_ok, m1, k2, hf', resD, Option.map_some, harr, h4, Sem.run_pure]
          · rename_i hf
            have hf' := findKey_run (ρ := ρ) (w := w) k3 hf
            obtain ⟨s', h1, h2, h3, h4⟩ := map_write R hr hb (es' := es) m2 hg
            refine ⟨_, s', ρ, _, h1, h3, Ext.refl _ _, by omega, by simp [okV, okA, okL], ?_⟩
            rw [← hret]
            simp only [Builtin.delete_, e1, e2, e3, Sem.run_bind, run_underlying hu', Result.andThen_ok, m1, k2, hf', resD, Option.map_none, h4, Sem.run_pure]
          · exact absurd hg R.fail
        · exact absurd hg R.fail
      · exact absurd hg R.fail
    · exact absurd hg R.fail
  | clear =>
    refine GoesV.goes (x := Builtin.clear_ ⟨tys⟩ o.type ⟨args.map (den ρ)⟩) ?_
    simp only [bClear] at hg
    have hret : Value.tuple #[] = den ρ (.tuple #[]) := by simp [den, denA, denL]
    split at hg
    · rename_i t ts x vs
      simp only [okL] at a2
      have e1 : (⟨t :: ts⟩ : Array TypeId)[0]? = some t := rfl
      have e2 : (⟨(x :: vs).map (den ρ)⟩ : Array Value)[0]? = some (den ρ x) := rfl
      split at hg
      · rename_i kt et r hu
        have hu' := under_some hu (by simp)
        obtain ⟨es, cl, hb, hg⟩ := withMap_some R hg
        obtain ⟨m1, m2, m3⟩ := map_get hr hb
        obtain ⟨s', h1, h2, h3, h4⟩ := map_write R hr hb (es' := []) (fun e' he' => by simp at he') hg
        refine ⟨_, s', ρ, _, h1, h3, Ext.refl _ _, by omega, by simp [okV, okA, okL], ?_⟩
        rw [← hret]
        simp only [Builtin.clear_, e1, e2, Sem.run_bind, run_underlying hu', Result.andThen_ok, den, Option.map_some, m1]
        simp only [List.map_nil] at h4 ⊢
        rw [h4]
        rfl
      · rename_i el l c hu
        have hu' := under_some hu (by simp)
        have : (Builtin.clear_ ⟨t :: ts⟩ o.type ⟨(Value.slice none l c :: vs).map (den ρ)⟩).run P w = .ok (den ρ (.tuple #[])) w := by
          rw [← hret]
          simp only [Builtin.clear_, e1, e2, Sem.run_bind, run_underlying hu', Result.andThen_ok, den]
          cases l <;> simp
        rw [this]
        exact GoesV.val hr (by simp [okV, okA, okL]) hg
      · rename_i el a n c hu
        have hu' := under_some hu (by simp)
        split at hg
        · rename_i hn
          subst hn
          have : (Builtin.clear_ ⟨t :: ts⟩ o.type ⟨(Value.slice (some a) 0 c :: vs).map (den ρ)⟩).run P w = .ok (den ρ (.tuple #[])) w := by
            rw [← hret]
            simp only [Builtin.clear_, e1, e2, Sem.run_bind, run_underlying hu', Result.andThen_ok, den]
            simp
          rw [this]
          exact GoesV.val hr (by simp [okV, okA, okL]) hg
        · rename_i hn
          split at hg
          · exact absurd hg R.fail
          · rename_i hc
            split at hg
            · rename_i z hz
              split at hg
              · rename_i hp
                obtain ⟨z1, z2⟩ := zeroCells_den hp n s.next ρ
                rw [okV] at a2
                obtain ⟨s', w', g1, g2, g3, g4⟩ := storeN_some R hr (a2.1 a rfl) z1 hg
                rw [z2] at g4
                refine ⟨_, s', ρ, w', g1, g2, Ext.refl _ _, by omega, by simp [okV, okA, okL], ?_⟩
                rw [← hret]
                have hd : den ρ (.slice (some a) n c) = .slice (some (addrD ρ a)) n (sCap ρ a c) := slice_den hc
                obtain ⟨m, rfl⟩ : ∃ m, n = m + 1 := ⟨n - 1, by omega⟩
                simp only [Builtin.clear_, e1, e2, hd, Sem.run_bind, run_underlying hu', Result.andThen_ok, zeroOf_some hz, g4, Sem.run_pure]
              · exact absurd hg R.fail
            · exact absurd hg R.fail
      · exact absurd hg R.fail
    · exact absurd hg R.fail
  | min =>
    refine GoesV.goes (x := Builtin.min_ ⟨tys⟩ o.type ⟨args.map (den ρ)⟩) ?_
    simp only at hg
    split at hg
    · rename_i hp
      rw [← denL_eq, (plain_denL s.next ρ hp).1]
      exact pure_args (T := 0) (ats := []) (args := []) R hr hg
    · exact absurd hg R.fail
  | max =>
    refine GoesV.goes (x := Builtin.max_ ⟨tys⟩ o.type ⟨args.map (den ρ)⟩) ?_
    simp only at hg
    split at hg
    · rename_i hp
      rw [← denL_eq, (plain_denL s.next ρ hp).1]
      exact pure_args (T := 0) (ats := []) (args := []) R hr hg
    · exact absurd hg R.fail
  | _ => exact absurd hg R.fail
end Go.Ab
