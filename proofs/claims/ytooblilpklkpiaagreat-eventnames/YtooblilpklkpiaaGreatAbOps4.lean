/- Each operation's rule is sound: part four: literals, slices, conversions. -/
import Derived.Test.YtooblilpklkpiaaGreatAbOps3
import Derived.Laws.BytesString
set_option linter.unusedSimpArgs false
set_option linter.unusedVariables false
namespace Go.Ab
variable {P : Program} {w0 : World} {G : HM → St → Prop} {k : Value → HM} {ρ : Env} {s : St} {w : World} {A : Tree Value} {e : Operand → Value} {o : Oper}

/-! fill -/
def setL (off : Nat) (vs : List Value) (cs : List Value) (j : Nat) : List Value :=
  match vs with
  | [] => cs
  | v :: r => setL off r (cs.set (off + j) v) (j + 1)
theorem setL_fold (off : Nat) : ∀ (vs : List Value) (cs : Array Value) (j : Nat), ((vs.zipIdx j).foldl (fun cs (x : Value × Nat) => cs.setIfInBounds (off + x.2) x.1) cs).toList = setL off vs cs.toList j
  | [], cs, j => rfl
  | v :: r, cs, j => by
    rw [List.zipIdx_cons, List.foldl_cons, setL_fold off r _ (j + 1), setL, Array.toList_setIfInBounds]
theorem setL_map (f : Value → Value) (off : Nat) : ∀ (vs cs : List Value) (j : Nat), setL off (vs.map f) (cs.map f) j = (setL off vs cs j).map f
  | [], cs, j => rfl
  | v :: r, cs, j => by rw [List.map_cons, setL, setL, ← List.map_set, setL_map f off r]
theorem setL_ok {n : Nat} (off : Nat) : ∀ (vs cs : List Value) (j : Nat), okL n vs → okL n cs → okL n (setL off vs cs j)
  | [], cs, j, _, h => h
  | v :: r, cs, j, h, h' => by
    rw [okL] at h
    rw [setL]
    refine setL_ok off r _ _ h.2 ((okL_iff _ _).2 fun u hu => ?_)
    rcases List.mem_or_eq_of_mem_set hu with hu | rfl
    · exact (okL_iff _ _).1 h' u hu
    · exact h.1
theorem fill_den {n : Nat} (place : Nat → Option (Nat × Nat)) : ∀ (parts : List (Nat × Value)) (cells : Array Value), (∀ p ∈ parts, okV n p.2) → okL n cells.toList → ∀ r, Instr.fill place cells parts = some r →
    okL n r.toList ∧ Instr.fill place ⟨cells.toList.map (den ρ)⟩ (parts.map fun p => (p.1, den ρ p.2)) = some ⟨r.toList.map (den ρ)⟩
  | [], cells, _, hc, r, h => by simp [Instr.fill] at h; subst h; exact ⟨hc, rfl⟩
  | (i, v) :: rest, cells, hp, hc, r, h => by
    rw [Instr.fill] at h
    rw [List.map_cons, Instr.fill]
    cases hpl : place i with
    | none => rw [hpl] at h; simp at h
    | some os =>
      obtain ⟨off, size⟩ := os
      rw [hpl] at h
      simp only at h ⊢
      have hsz : (den ρ v).cells.size = v.cells.size := by rw [cells_den]; simp
      have hcs : (⟨cells.toList.map (den ρ)⟩ : Array Value).size = cells.size := by simp
      rw [hsz, hcs]
      split at h
      · simp at h
      · rename_i hne
        rw [if_neg hne]
        have key : ∀ (vs cs : Array Value), (vs.zipIdx.foldl (fun cs (x : Value × Nat) => cs.setIfInBounds (off + x.2) x.1) cs) = ⟨setL off vs.toList cs.toList 0⟩ := fun vs cs => by
          apply Array.ext'
          rw [← Array.foldl_toList, Array.toList_zipIdx, setL_fold]
        have h1 := key v.cells cells
        have h2 := key (den ρ v).cells ⟨cells.toList.map (den ρ)⟩
        rw [cells_den, setL_map] at h2
        have hok := fill_den place rest ⟨setL off v.cells.toList cells.toList 0⟩ (fun p hp' => hp p (List.mem_cons_of_mem _ hp')) (setL_ok _ _ _ _ (cells_ok (hp (i, v) (List.mem_cons_self ..))) hc) r (by rw [← h1]; exact h)
        refine ⟨hok.1, ?_⟩
        rw [cells_den]
        have := hok.2
        simp only at this
        rw [← h2] at this
        exact this
theorem map_parts {parts : Array (Nat × Operand)} (he : EvR P ρ s.next A e) (hp : ∀ p ∈ parts.toList, okOpd P p.2 = true) :
    (parts.map fun (p : Nat × Operand) => (p.1, e p.2)).toList = (parts.toList.map fun p => (p.1, ev A p.2)).map (fun p => (p.1, den ρ p.2)) ∧ ∀ p ∈ parts.toList.map (fun p => (p.1, ev A p.2)), okV s.next p.2 := by
  refine ⟨?_, fun p hp' => ?_⟩
  · rw [Array.toList_map, List.map_map]
    exact List.map_congr_left fun p h => by simp [he.eq p.2 (hp p h)]
  · obtain ⟨q, hq, rfl⟩ := List.mem_map.1 hp'
    exact he.ok q.2 (hp q hq)
theorem plain_cells {z : Value} (hz : plain z = true) (n : Nat) (ρ : Env) : okL n z.cells.toList ∧ (⟨z.cells.toList.map (den ρ)⟩ : Array Value) = z.cells := by
  obtain ⟨h1, h2⟩ := plain_den n ρ hz
  exact ⟨cells_ok h2, by rw [← cells_den, h1]⟩
theorem mapM_size {fields : Array Field} (h : fields.toList.all (fun f => (P.info? f.type).isSome) = true) :
    (fields.mapM fun f => (do pure (f.offset, ← sizeOf f.type) : Sem (Nat × Nat))).run P w = .ok (fields.map fun f => (f.offset, cellsOf P f.type)) w := by
  have key : ∀ (l : List Field), l.all (fun f => (P.info? f.type).isSome) = true → (l.mapM fun f => (do pure (f.offset, ← sizeOf f.type) : Sem (Nat × Nat))).run P w = .ok (l.map fun f => (f.offset, cellsOf P f.type)) w := by
    intro l
    induction l with
    | nil => intro _; rfl
    | cons f l ih =>
      intro h
      simp only [List.all_cons, Bool.and_eq_true] at h
      have h2 := ih h.2
      rw [List.mapM_cons]
      simp only [Sem.run_bind, run_sizeOf' h.1, Result.andThen_ok, Sem.run_pure] at h2 ⊢
      rw [h2]
      rfl
  have := key fields.toList h
  rw [Array.mapM_eq_mapM_toList, Sem.run_map, this, Result.andThen_ok]
  congr 1
  cases fields; simp
theorem s_build {t : TypeId} {parts : Array (Nat × Operand)} (R : Runner G) (hr : Rel P w0 ρ s w) (he : EvR P ρ s.next A e) (hp : ∀ p ∈ parts.toList, okOpd P p.2 = true) (ho : o.op = .build t parts) (hg : G (oBuild P t parts A k) s) :
    Goes P w0 G k ρ s ((execOp e o).run P w) := by
  unfold oBuild at hg
  obtain ⟨v, hv, hg⟩ := retO_some R hg
  simp only [execOp, ho]
  refine GoesV.goes ?_
  obtain ⟨q1, q2⟩ := map_parts he hp
  unfold buildA at hv
  split at hv
  · simp at hv
  · rename_i z hz
    split at hv
    · rename_i hpz
      obtain ⟨z1, z2⟩ := plain_cells hpz s.next ρ
      split at hv
      · rename_i fields hu
        have hu' := under_some hu (by simp)
        split at hv
        · rename_i hall
          cases hf : Instr.fill ((fields.map fun f => (f.offset, cellsOf P f.type))[·]?) z.cells (parts.toList.map fun p => (p.1, ev A p.2)) with
          | none => rw [hf] at hv; simp at hv
          | some r =>
            rw [hf] at hv; simp at hv; subst hv
            obtain ⟨f1, f2⟩ := fill_den (ρ := ρ) _ _ _ q2 z1 r hf
            rw [z2, ← q1] at f2
            have : (Instr.build t (parts.map fun (p : Nat × Operand) => (p.1, e p.2))).run P w = .ok (den ρ (.agg r)) w := by
              simp only [Instr.build, Sem.run_bind, zeroOf_some hz, Result.andThen_ok, run_underlying hu', mapM_size hall, f2]
              simp [den, denA_eq]
            refine (congrArg (GoesV P w0 G k ρ s) ?_).mpr (GoesV.val hr (V := .agg r) (by rw [okV, okA_iff]; exact (okL_iff _ _).1 f1) hg)
            exact this
        · simp at hv
      · rename_i len elem hu
        have hu' := under_some hu (by simp)
        split at hv
        · rename_i hall
          cases hf : Instr.fill (fun i => some (i * cellsOf P elem, cellsOf P elem)) z.cells (parts.toList.map fun p => (p.1, ev A p.2)) with
          | none => rw [hf] at hv; simp at hv
          | some r =>
            rw [hf] at hv; simp at hv; subst hv
            obtain ⟨f1, f2⟩ := fill_den (ρ := ρ) _ _ _ q2 z1 r hf
            rw [z2, ← q1] at f2
            have : (Instr.build t (parts.map fun (p : Nat × Operand) => (p.1, e p.2))).run P w = .ok (den ρ (.agg r)) w := by
              simp only [Instr.build, Sem.run_bind, zeroOf_some hz, Result.andThen_ok, run_underlying hu', run_sizeOf' hall, f2]
              simp [den, denA_eq]
            refine (congrArg (GoesV P w0 G k ρ s) ?_).mpr (GoesV.val hr (V := .agg r) (by rw [okV, okA_iff]; exact (okL_iff _ _).1 f1) hg)
            exact this
        · simp at hv
      · simp at hv
    · simp at hv
theorem zeros_den {z : Value} (hz : plain z = true) (m n : Nat) (ρ : Env) :
    okL n ((Array.range m).map (z.cells[· % z.cells.size]!)).toList ∧ (⟨((Array.range m).map (z.cells[· % z.cells.size]!)).toList.map (den ρ)⟩ : Array Value) = (Array.range m).map (z.cells[· % z.cells.size]!) := by
  obtain ⟨z1, z2⟩ := plain_cells hz n ρ
  have key : ∀ i : Nat, plain (z.cells[i % z.cells.size]!) = true := by
    have hall : ∀ v ∈ z.cells.toList, plain v = true := by
      cases z with
      | agg vs =>
        cases vs with | mk l =>
        rw [plain, plainA] at hz
        simp only [Value.cells]
        have : ∀ l, plainL l = true → ∀ v ∈ l, plain v = true := by
          intro l
          induction l with
          | nil => intro _ v hv; simp at hv
          | cons u l ih =>
            intro h v hv
            rw [plainL, Bool.and_eq_true] at h
            cases hv with
            | head => exact h.1
            | tail _ hv => exact ih h.2 v hv
        exact this l hz
      | _ => simpa [Value.cells] using hz
    intro i
    by_cases hi : i % z.cells.size < z.cells.size
    · rw [getElem!_pos z.cells (i % z.cells.size) hi]
      exact hall _ (by simp)
    · rw [getElem!_neg z.cells (i % z.cells.size) hi]; rfl
  refine ⟨(okL_iff _ _).2 fun v hv => ?_, ?_⟩
  · simp only [Array.toList_map, List.mem_map] at hv
    obtain ⟨i, _, rfl⟩ := hv
    exact (plain_den n ρ (key i)).2
  · apply Array.ext'
    simp only [Array.toList_map, List.map_map]
    exact List.map_congr_left fun i _ => (plain_den n ρ (key i)).1
theorem s_buildSlice {t : TypeId} {len : Nat} {parts : Array (Nat × Operand)} (R : Runner G) (hr : Rel P w0 ρ s w) (he : EvR P ρ s.next A e) (hp : ∀ p ∈ parts.toList, okOpd P p.2 = true) (ho : o.op = .buildSlice t len parts) (hg : G (oBuildSlice P t len parts A k) s) :
    Goes P w0 G k ρ s ((execOp e o).run P w) := by
  unfold oBuildSlice at hg
  simp only [execOp, ho]
  refine GoesV.goes ?_
  obtain ⟨q1, q2⟩ := map_parts he hp
  split at hg
  · rename_i elem hu
    have hu' := under_some hu (by simp)
    split at hg
    · exact absurd hg R.fail
    · rename_i hsmall
      have hs1 : ¬ len * cellsOf P elem > 2 ^ 24 := fun h => hsmall (.inl h)
      have hs2 : (P.info? elem).isSome = true := by
        cases hh : P.info? elem with
        | none => exact absurd (.inr (by simp [hh])) hsmall
        | some i => rfl
      split at hg
      · exact absurd hg R.fail
      · rename_i z hz
        split at hg
        · rename_i hpz
          split at hg
          · rename_i cs hf
            obtain ⟨z1, z2⟩ := zeros_den hpz (len * cellsOf P elem) s.next ρ
            obtain ⟨f1, f2⟩ := fill_den (ρ := ρ) _ _ _ q2 z1 cs hf
            rw [z2, ← q1] at f2
            obtain ⟨s', ρ', h1, h2, h3, h4, h5⟩ := newRow_some R hr f1 hg
            refine ⟨_, s', ρ', _, h1, h4, h3, by omega, ?_, ?_⟩
            · rw [okV]; intro x hx; simp at hx; subst hx; exact ⟨by simp; omega, rfl⟩
            · have hd : den ρ' (.slice (some ⟨s.next, 0, none⟩) len (3 * len)) = .slice (some ⟨w.heap.size, 0, none⟩) len len := by
                rw [slice_den (by omega)]
                simp [addrD, h5, sCap]
              rw [hd]
              have hrun : (Instr.buildSlice t len (parts.map fun (p : Nat × Operand) => (p.1, e p.2))).run P w = .ok (.slice (some ⟨w.heap.size, 0, none⟩) len len) { w with heap := w.heap.push (.cells ⟨cs.toList.map (den ρ)⟩ elem) } := by
                simp only [Instr.buildSlice, Sem.run_bind, run_underlying hu', Result.andThen_ok, run_sizeOf' hs2, if_neg hs1, Sem.run_pure]
                by_cases h0 : len * cellsOf P elem = 0
                · have e0 : ∀ g : Nat → Value, (Array.range (len * cellsOf P elem)).map g = #[] := fun g => by rw [h0]; simp
                  rw [e0] at f2
                  simp only [if_pos h0, Sem.run_bind, Sem.run_pure, Result.andThen_ok]
                  rw [e0, f2]
                  simp [Go.newRow]
                · rw [if_neg h0]
                  simp only [Sem.run_bind, zeroOf_some hz, Result.andThen_ok, Sem.run_pure, f2]
                  simp [Go.newRow]
              exact hrun
          · exact absurd hg R.fail
        · exact absurd hg R.fail
  · exact absurd hg R.fail
end Go.Ab
