/- Each operation's rule is sound: part two. -/
import Derived.Test.YtooblilpklkpiaaGreatAbOps
set_option linter.unusedSimpArgs false
set_option linter.unusedVariables false
namespace Go.Ab
variable {P : Program} {w0 : World} {G : HM → St → Prop} {k : Value → HM} {ρ : Env} {s : St} {w : World} {A : Tree Value} {e : Operand → Value} {o : Oper}

/-- A new row of cells. -/
theorem newRow_some (R : Runner G) (hr : Rel P w0 ρ s w) {elem m : Nat} {cells : List Value} (hc : okL s.next cells) {f : Nat → HM} (h : G (newRow P elem m cells f) s) :
    ∃ s' ρ', G (f s.next) s' ∧ s'.next = s.next + 1 ∧ Ext s.next ρ ρ' ∧ Rel P w0 ρ' s' { w with heap := w.heap.push (.cells ⟨cells.map (den ρ)⟩ elem) } ∧
      ρ' s.next = ⟨w.heap.size, 0, m, cellsOf P elem⟩ := by
  unfold newRow at h
  split at h
  · rename_i hl
    have hg := R.mk_ h
    obtain ⟨h1, h2⟩ := hr.new (L := ⟨w.heap.size, 0, m, cellsOf P elem⟩) (o := .cells ⟨cells.map (den ρ)⟩ elem) (x := .cells elem cells.length (Tree.ofList cells)) rfl (fun w' hw' => by
      refine ⟨rfl, Nat.le_of_eq hl.1, _, hw', by simp [hl.1], fun i v hv => ?_⟩
      rw [Tree.get_ofList _ _ (Nat.lt_of_le_of_lt hl.2 (by decide))] at hv
      have hv' := (okL_iff _ _).1 hc v (List.mem_of_getElem? hv)
      refine ⟨(List.getElem?_eq_some_iff.1 hv).1, okV_mono (Nat.le_succ _) hv', ?_⟩
      rw [den_ext (ext_envN _ _ _) hv']
      simp [hv])
    exact ⟨_, _, hg, rfl, h2, h1, envN_self _ _ _⟩
  · exact absurd h R.fail

theorem s_move {x : Operand} (R : Runner G) (hr : Rel P w0 ρ s w) (he : EvR P ρ s.next A e) (hx : okOpd P x = true) (ho : o.op = .move x) (hg : G (oMove x A k) s) :
    Goes P w0 G k ρ s ((execOp e o).run P w) := by
  simp only [execOp, ho, Sem.run_pure, he.eq x hx]
  exact Goes.val hr (he.ok x hx) hg
theorem s_assign {x : Operand} (R : Runner G) (hr : Rel P w0 ρ s w) (he : EvR P ρ s.next A e) (hx : okOpd P x = true) (ho : o.op = .assign x) (hg : G (oMove x A k) s) :
    Goes P w0 G k ρ s ((execOp e o).run P w) := by
  simp only [execOp, ho, Sem.run_pure, he.eq x hx]
  exact Goes.val hr (he.ok x hx) hg
theorem s_pick {c a b : Operand} (R : Runner G) (hr : Rel P w0 ρ s w) (he : EvR P ρ s.next A e) (hc : okOpd P c = true) (ha : okOpd P a = true) (hb : okOpd P b = true) (ho : o.op = .pick c a b) (hg : G (oPick c a b A k) s) :
    Goes P w0 G k ρ s ((execOp e o).run P w) := by
  unfold oPick at hg
  split at hg
  · rename_i t ht
    have h1 : e c = .bool t := by rw [he.eq c hc, ht, den]
    simp only [execOp, ho, h1, asBool, Sem.run_bind, Sem.run_pure, Result.andThen_ok]
    cases t with
    | true => simp only [if_true] at hg ⊢; rw [he.eq a ha]; exact Goes.val hr (he.ok a ha) hg
    | false => simp only [Bool.false_eq_true, if_false] at hg ⊢; rw [he.eq b hb]; exact Goes.val hr (he.ok b hb) hg
  · exact absurd hg R.fail
theorem cells_den (ρ : Env) (v : Value) : (den ρ v).cells = ⟨v.cells.toList.map (den ρ)⟩ := by
  cases v with
  | slice a l c => cases a <;> simp [den, Value.cells]
  | agg vs => simp [den, Value.cells, denA_eq]
  | _ => simp [den, Value.cells]
theorem cells_ok {n : Nat} {v : Value} (h : okV n v) : okL n v.cells.toList := by
  cases v with
  | agg vs => rw [okV] at h; cases vs; rw [okA] at h; exact h
  | _ => simp only [Value.cells, okL]; exact ⟨h, trivial⟩
theorem newVar_some (R : Runner G) (hr : Rel P w0 ρ s w) {elem : Nat} {v : Value} (hv : okV s.next v) (h : G (newRow P elem 1 v.cells.toList fun b => k (.pointer (some ⟨b, 0, none⟩))) s) :
    GoesV P w0 G k ρ s ((do pure (.pointer (some (← newVar elem (den ρ v)))) : Sem Value).run P w) := by
  obtain ⟨s', ρ', h1, h2, h3, h4, h5⟩ := newRow_some R hr (cells_ok hv) h
  refine ⟨_, s', ρ', _, h1, h4, h3, by omega, ?_, ?_⟩
  · rw [okV]; intro x hx; simp at hx; subst hx; exact ⟨by simp; omega, rfl⟩
  · simp [newVar, newRow, Go.newRow, cells_den, den, addrD, h5]
theorem s_alloc {elem : TypeId} (R : Runner G) (hr : Rel P w0 ρ s w) (ho : o.op = .alloc elem) (hg : G (oAlloc P elem A k) s) :
    Goes P w0 G k ρ s ((execOp e o).run P w) := by
  unfold oAlloc at hg
  split at hg
  · rename_i z hz
    split at hg
    · rename_i hp
      have h1 := newVar_some R hr (plain_den s.next ρ hp).2 hg
      rw [(plain_den s.next ρ hp).1] at h1
      simp only [execOp, ho]
      refine GoesV.goes ?_
      simpa [Instr.alloc, zeroOf_some hz] using h1
    · exact absurd hg R.fail
  · exact absurd hg R.fail
theorem s_box {elem : TypeId} {x : Operand} (R : Runner G) (hr : Rel P w0 ρ s w) (he : EvR P ρ s.next A e) (hx : okOpd P x = true) (ho : o.op = .box elem x) (hg : G (oBox P elem x A k) s) :
    Goes P w0 G k ρ s ((execOp e o).run P w) := by
  simp only [execOp, ho]
  refine GoesV.goes ?_
  rw [he.eq x hx]
  exact newVar_some R hr (he.ok x hx) hg
theorem ptr_den {x : Operand} {a : Addr} (he : EvR P ρ s.next A e) (hx : okOpd P x = true) (h : ev A x = .pointer (some a)) : e x = .pointer (some (addrD ρ a)) ∧ okAd s.next a := by
  refine ⟨by rw [he.eq x hx, h, den]; rfl, ?_⟩
  have := he.ok x hx
  rw [h, okV] at this
  exact this a rfl
theorem loadVar_some (R : Runner G) (hr : Rel P w0 ρ s w) {t : TypeId} {a : Addr} (ha : okAd s.next a) (hg : G (loadVarA P t a.block a.off k) s) :
    GoesV P w0 G k ρ s ((loadVar t (addrD ρ a)).run P w) := by
  unfold loadVarA at hg
  split at hg
  · rename_i n h1 h2
    obtain ⟨l, h3, h4, h5, h6⟩ := loadN_some R hr ha.2 hg
    have : (loadVar t (addrD ρ a)).run P w = .ok (den ρ (.agg ⟨l⟩)) w := by
      simp only [loadVar, Sem.run_bind, aggO_run h1, Result.andThen_ok, if_true, (szO_some h2).1, h6, Sem.run_pure]
      simp [den, denA_eq]
    rw [this]
    exact GoesV.val hr (by rw [okV, okA]; exact h5) h3
  · rename_i n h1 h2
    obtain ⟨e', m, c, hb, hg⟩ := cellsB_some R hg
    obtain ⟨v, hv, hg⟩ := retO_some R hg
    obtain ⟨c1, c2, c3, c4⟩ := hr.cell hb hv
    have : (loadVar t (addrD ρ a)).run P w = .ok (den ρ v) w := by
      have hadr : addrD ρ a = ⟨(ρ a.block).b, (ρ a.block).base + a.off, none⟩ := by unfold addrD; rw [ha.2]
      simp only [loadVar, Sem.run_bind, aggO_run h1, Result.andThen_ok, Bool.false_eq_true, if_false, run_load, hadr, c1]
    rw [this]
    exact GoesV.val hr c3 hg
  · exact absurd hg R.fail
theorem s_load {t : TypeId} {x : Operand} (R : Runner G) (hr : Rel P w0 ρ s w) (he : EvR P ρ s.next A e) (hx : okOpd P x = true) (ho : o.op = .load t x) (hg : G (oLoad P t x A k) s) :
    Goes P w0 G k ρ s ((execOp e o).run P w) := by
  unfold oLoad at hg
  split at hg
  · rename_i a ha
    obtain ⟨h1, h2⟩ := ptr_den he hx ha
    simp only [execOp, ho]
    refine GoesV.goes ?_
    rw [h1]
    simpa [Instr.loadAt, Instr.sureAddr] using loadVar_some R hr h2 hg
  · exact absurd hg R.fail
theorem s_store {t : TypeId} {x y : Operand} (R : Runner G) (hr : Rel P w0 ρ s w) (he : EvR P ρ s.next A e) (hx : okOpd P x = true) (hy : okOpd P y = true) (ho : o.op = .store t x y) (hg : G (oStore P t x y A k) s) :
    Goes P w0 G k ρ s ((execOp e o).run P w) := by
  unfold oStore at hg
  split at hg
  · rename_i a ha
    obtain ⟨h1, h2⟩ := ptr_den he hx ha
    simp only [execOp, ho]
    refine GoesU.goes ?_
    unfold storeVarA at hg
    split at hg
    · rename_i n hn
      split at hg
      · rename_i hsz
        obtain ⟨s', w', h3, h4, h5, h6⟩ := storeN_some R hr h2 (cells_ok (he.ok y hy)) hg
        refine ⟨s', ρ, w', h3, h4, Ext.refl _ _, by omega, ?_⟩
        rw [h1, he.eq y hy]
        simp only [Instr.storeAt, Instr.sureAddr, storeVar, Sem.run_bind, Sem.run_pure, Result.andThen_ok, (szO_some hn).1, cells_den]
        simp [hsz, h6]
      · exact absurd hg R.fail
    · exact absurd hg R.fail
  · exact absurd hg R.fail
theorem s_nil {x : Operand} (R : Runner G) (hr : Rel P w0 ρ s w) (he : EvR P ρ s.next A e) (hx : okOpd P x = true) (ho : o.op = .nilCheck x) (hg : G (oNil x A k) s) :
    Goes P w0 G k ρ s ((execOp e o).run P w) := by
  unfold oNil at hg
  have h0 := he.eq x hx
  have h1 := he.ok x hx
  split at hg
  · exact absurd hg R.fail
  · exact absurd hg R.fail
  · exact absurd hg R.fail
  · exact absurd hg R.fail
  · rename_i n1 n2 n3 n4
    generalize ev A x = v at *
    have : (execOp e o).run P w = .ok (.value (den ρ v)) w := by
      simp only [execOp, ho, h0]
      cases v with
      | pointer a =>
        cases a with
        | none => exact absurd rfl n1
        | some a => simp [den]
      | slice a l c => cases a <;> simp [den]
      | func fn fs cs => cases fn <;> first | (exact absurd rfl (n4 _ _ _)) | simp [den, fnD]
      | nilIface => exact absurd rfl n2
      | nilFunc => exact absurd rfl n3
      | _ => simp [den]
    rw [this]
    exact Goes.val hr h1 hg
theorem s_iface {t : TypeId} {x : Operand} (R : Runner G) (hr : Rel P w0 ρ s w) (he : EvR P ρ s.next A e) (hx : okOpd P x = true) (ho : o.op = .makeInterface t x) (hg : G (oIface P t x A k) s) :
    Goes P w0 G k ρ s ((execOp e o).run P w) := by
  unfold oIface at hg
  simp only [execOp, ho]
  refine GoesV.goes ?_
  split at hg
  · exact absurd hg R.fail
  · exact absurd hg R.fail
  · rename_i n1 n2
    have hu := under_some (P := P) (t := t) rfl n2
    have : (Instr.makeInterface t (e x)).run P w = .ok (den ρ (.iface t (ev A x))) w := by
      simp only [Instr.makeInterface, Sem.run_bind, run_underlying hu, Result.andThen_ok, den, he.eq x hx]
      generalize under P t = d at *
      cases d <;> first | rfl | exact absurd rfl (n1 _)
    rw [this]
    exact GoesV.val hr (by rw [okV]; exact he.ok x hx) hg
theorem map_ev {l : List Operand} (he : EvR P ρ s.next A e) (hl : ∀ x ∈ l, okOpd P x = true) : l.map e = (l.map (ev A)).map (den ρ) ∧ okL s.next (l.map (ev A)) := by
  refine ⟨?_, (okL_iff _ _).2 fun v hv => ?_⟩
  · rw [List.map_map]; exact List.map_congr_left fun x hx => he.eq x (hl x hx)
  · obtain ⟨x, hx, rfl⟩ := List.mem_map.1 hv; exact he.ok x (hl x hx)
theorem s_func {fn : Fn} {fs cs : Array Operand} (R : Runner G) (hr : Rel P w0 ρ s w) (he : EvR P ρ s.next A e) (hf : ∀ x ∈ fs.toList, okOpd P x = true) (hc : ∀ x ∈ cs.toList, okOpd P x = true) (ho : o.op = .makeFunc fn fs cs) (hg : G (oFunc fn fs cs A k) s) :
    Goes P w0 G k ρ s ((execOp e o).run P w) := by
  simp only [execOp, ho, Instr.makeFunc]
  have main : G (k (.func fn ⟨fs.toList.map (ev A)⟩ ⟨cs.toList.map (ev A)⟩)) s → plainFn fn = true → Goes P w0 G k ρ s ((do pure (.value (← pure (.func fn (fs.map e) (cs.map e)))) : Sem Next).run P w) := by
    intro hg hp
    have h1 := map_ev he hf
    have h2 := map_ev he hc
    refine GoesV.goes ?_
    have : (.func fn (fs.map e) (cs.map e) : Value) = den ρ (.func fn ⟨fs.toList.map (ev A)⟩ ⟨cs.toList.map (ev A)⟩) := by
      rw [den, denA_eq, denA_eq, (plainFn_den (n := s.next) hp).1]
      simp only [← h1.1, ← h2.1]
      cases fs; cases cs; simp
    simp only [Sem.run_pure, this]
    exact GoesV.val hr (by rw [okV, okA, okA]; exact ⟨(plainFn_den (ρ := ρ) hp).2, h1.2, h2.2⟩) hg
  unfold oFunc at hg
  cases fn <;> first | exact absurd hg R.fail | exact main hg rfl
theorem s_makeMap {t : TypeId} {r : Option Operand} (R : Runner G) (hr : Rel P w0 ρ s w) (ho : o.op = .makeMap t r) (hg : G (oMakeMap t r A k) s) :
    Goes P w0 G k ρ s ((execOp e o).run P w) := by
  unfold oMakeMap at hg
  cases r with
  | some r => exact absurd hg R.fail
  | none =>
    have hg := R.mk_ hg
    obtain ⟨h1, h2⟩ := hr.new (L := ⟨w.heap.size, 0, 0, 0⟩) (o := .map #[] 0) (x := .map [] 0) rfl (fun w' hw' => ⟨hw', by simp⟩)
    simp only [execOp, ho]
    refine GoesV.goes ⟨_, _, _, _, hg, h1, h2, Nat.le_succ _, ?_, ?_⟩
    · rw [okV]; intro x hx; simp at hx; subst hx; simp [St.put]
    · simp [Instr.makeMap, den, envN_self]
theorem s_extract {t : Operand} {ix : Nat} (R : Runner G) (hr : Rel P w0 ρ s w) (he : EvR P ρ s.next A e) (hx : okOpd P t = true) (ho : o.op = .extract t ix) (hg : G (oExtract t ix A k) s) :
    Goes P w0 G k ρ s ((execOp e o).run P w) := by
  unfold oExtract at hg
  split at hg
  · rename_i vs hvs
    obtain ⟨v, hv, hg⟩ := retO_some R hg
    simp only [execOp, ho]
    refine GoesV.goes ?_
    have h0 := he.ok t hx
    rw [hvs, okV, okA_iff] at h0
    have : (Instr.extract (e t) ix).run P w = .ok (den ρ v) w := by
      rw [he.eq t hx, hvs, den, denA_eq]
      have : (⟨vs.toList.map (den ρ)⟩ : Array Value)[ix]? = some (den ρ v) := by simp [hv]
      simp [Instr.extract, this]
    rw [this]
    exact GoesV.val hr (h0 v (List.mem_of_getElem? hv)) hg
  · exact absurd hg R.fail
theorem s_fieldAddr {t : TypeId} {x : Operand} {f : Nat} (R : Runner G) (hr : Rel P w0 ρ s w) (he : EvR P ρ s.next A e) (hx : okOpd P x = true) (ho : o.op = .fieldAddr t x f) (hg : G (oFieldAddr P t x f A k) s) :
    Goes P w0 G k ρ s ((execOp e o).run P w) := by
  unfold oFieldAddr at hg
  split at hg
  · rename_i fields a hu ha
    obtain ⟨h1, h2⟩ := ptr_den he hx ha
    have hu' := under_some hu (by simp)
    split at hg
    · rename_i fd hfd
      split at hg
      · rename_i n hn
        simp only [execOp, ho]
        refine GoesV.goes ?_
        have hfd' : fields[f]? = some fd := by simpa using hfd
        have : (Instr.fieldAt t (e x) f).run P w = .ok (den ρ (.pointer (some (a.add fd.offset)))) w := by
          simp only [Instr.fieldAt, h1, Sem.run_bind, run_underlying hu', Result.andThen_ok, hfd', Instr.sureAddr, Sem.run_pure, fieldPlace, (szO_some hn).1]
          simp [den, addrD_add h2.2]
        rw [this]
        exact GoesV.val hr (by rw [okV]; intro y hy; simp at hy; subst hy; exact add_ok h2 _) hg
      · exact absurd hg R.fail
    · exact absurd hg R.fail
  · exact absurd hg R.fail
theorem asNat_some {v : Value} {n : Nat} (h : asNat? v = some n) : ∃ k, v = .int k n := by
  unfold asNat? at h
  split at h
  · split at h
    · simp at h; subst h; exact ⟨_, rfl⟩
    · simp at h
  · simp at h
theorem asNat_ev {x : Operand} {n : Nat} (he : EvR P ρ s.next A e) (hx : okOpd P x = true) (h : asNat? (ev A x) = some n) : ∃ k, e x = .int k n := by
  obtain ⟨k, hk⟩ := asNat_some h
  exact ⟨k, by rw [he.eq x hx, hk, den]⟩
theorem slice_den {a : Addr} {l c : Nat} (hc : c % 3 ≠ 2) : den ρ (.slice (some a) l c) = .slice (some (addrD ρ a)) l (sCap ρ a c) := by
  rw [den, sAddr, if_neg (by simp [hc])]
theorem s_indexAddr {t : TypeId} {x ix : Operand} (R : Runner G) (hr : Rel P w0 ρ s w) (he : EvR P ρ s.next A e) (hx : okOpd P x = true) (hi : okOpd P ix = true) (ho : o.op = .indexAddr t x ix) (hg : G (oIndexAddr P t x ix A k) s) :
    Goes P w0 G k ρ s ((execOp e o).run P w) := by
  unfold oIndexAddr at hg
  simp only [execOp, ho]
  refine GoesV.goes ?_
  split at hg
  · rename_i i len elem a h1 hu ha
    obtain ⟨ik, hik⟩ := asNat_ev he hi h1
    obtain ⟨h2, h3⟩ := ptr_den he hx ha
    have hu' := under_some hu (by simp)
    split at hg
    · rename_i size hlt hsz
      rw [Nat.blt_eq] at hlt
      have : (Instr.indexAt t (e x) (e ix)).run P w = .ok (den ρ (.pointer (some (a.add (i * size))))) w := by
        simp only [Instr.indexAt, hik, h2, asIntOf, Sem.run_bind, Sem.run_pure, Result.andThen_ok, run_underlying hu', Instr.sureAddr]
        simp [hlt, (szO_some hsz).1, den, addrD_add h3.2]
      rw [this]
      exact GoesV.val hr (by rw [okV]; intro y hy; simp at hy; subst hy; exact add_ok h3 _) hg
    · exact absurd hg R.fail
  · rename_i i elem a len c h1 hu ha
    obtain ⟨ik, hik⟩ := asNat_ev he hi h1
    have hu' := under_some hu (by simp)
    have h0 := he.ok x hx
    rw [ha, okV] at h0
    have h3 := h0 a rfl
    split at hg
    · rename_i size hlt hsz
      simp only [Bool.and_eq_true, Bool.or_eq_true, Nat.blt_eq, Nat.beq_eq] at hlt
      have h2 : e x = .slice (some (addrD ρ a)) len (sCap ρ a c) := by rw [he.eq x hx, ha, slice_den (by omega)]
      have : (Instr.indexAt t (e x) (e ix)).run P w = .ok (den ρ (.pointer (some (a.add (i * size))))) w := by
        simp only [Instr.indexAt, hik, h2, asIntOf, Sem.run_bind, Sem.run_pure, Result.andThen_ok, run_underlying hu']
        simp [hlt.1, (szO_some hsz).1, den, addrD_add h3.2]
      rw [this]
      exact GoesV.val hr (by rw [okV]; intro y hy; simp at hy; subst hy; exact add_ok h3 _) hg
    · exact absurd hg R.fail
  · exact absurd hg R.fail
theorem part_some (R : Runner G) (hr : Rel P w0 ρ s w) {t : TypeId} {cs : Array Value} {off : Nat} (hc : okA s.next cs) (hg : G (partA P t cs off k) s) :
    GoesV P w0 G k ρ s ((part t ⟨cs.toList.map (den ρ)⟩ off).run P w) := by
  rw [okA_iff] at hc
  unfold partA at hg
  split at hg
  · rename_i n h1 h2
    have : (part t ⟨cs.toList.map (den ρ)⟩ off).run P w = .ok (den ρ (.agg ⟨(cs.toList.drop off).take n⟩)) w := by
      simp only [part, Sem.run_bind, aggO_run h1, Result.andThen_ok, if_true, (szO_some h2).1, Sem.run_pure, den, denA_eq]
      congr 3
      simp [List.map_take, List.map_drop, List.drop_take]
    rw [this]
    refine GoesV.val hr ?_ hg
    rw [okV, okA, okL_iff]
    exact fun v hv => hc v (List.mem_of_mem_drop (List.mem_of_mem_take hv))
  · rename_i n h1 h2
    obtain ⟨v, hv, hg⟩ := retO_some R hg
    have : (part t ⟨cs.toList.map (den ρ)⟩ off).run P w = .ok (den ρ v) w := by
      have : (⟨cs.toList.map (den ρ)⟩ : Array Value)[off]? = some (den ρ v) := by simp [hv]
      simp only [part, Sem.run_bind, aggO_run h1, Result.andThen_ok, Bool.false_eq_true, if_false, this, Sem.run_pure]
    rw [this]
    exact GoesV.val hr (hc v (List.mem_of_getElem? hv)) hg
  · exact absurd hg R.fail
theorem s_field {t : TypeId} {x : Operand} {f : Nat} (R : Runner G) (hr : Rel P w0 ρ s w) (he : EvR P ρ s.next A e) (hx : okOpd P x = true) (ho : o.op = .field t x f) (hg : G (oField P t x f A k) s) :
    Goes P w0 G k ρ s ((execOp e o).run P w) := by
  unfold oField at hg
  split at hg
  · rename_i fields cs hu ha
    have hu' := under_some hu (by simp)
    split at hg
    · rename_i fd hfd
      simp only [execOp, ho]
      refine GoesV.goes ?_
      have hfd' : fields[f]? = some fd := by simpa using hfd
      have h0 := he.ok x hx
      rw [ha, okV] at h0
      have := part_some (w := w) R hr h0 hg
      rw [he.eq x hx, ha, den, denA_eq]
      simpa only [Instr.field, Sem.run_bind, run_underlying hu', Result.andThen_ok, hfd', asAgg, Sem.run_pure] using this
    · exact absurd hg R.fail
  · exact absurd hg R.fail
theorem s_index {t : TypeId} {x ix : Operand} (R : Runner G) (hr : Rel P w0 ρ s w) (he : EvR P ρ s.next A e) (hx : okOpd P x = true) (hi : okOpd P ix = true) (ho : o.op = .index t x ix) (hg : G (oIndex P t x ix A k) s) :
    Goes P w0 G k ρ s ((execOp e o).run P w) := by
  unfold oIndex at hg
  simp only [execOp, ho]
  refine GoesV.goes ?_
  split at hg
  · rename_i i len elem cs h1 hu ha
    obtain ⟨ik, hik⟩ := asNat_ev he hi h1
    have hu' := under_some hu (by simp)
    split at hg
    · rename_i size hlt hsz
      rw [Nat.blt_eq] at hlt
      have h0 := he.ok x hx
      rw [ha, okV] at h0
      have := part_some (w := w) R hr h0 hg
      rw [he.eq x hx, ha, den, denA_eq, hik]
      simpa [Instr.index, asIntOf, Sem.run_bind, run_underlying hu', hlt, (szO_some hsz).1] using this
    · exact absurd hg R.fail
  · rename_i i str h1 hu ha
    obtain ⟨ik, hik⟩ := asNat_ev he hi h1
    have hu' := under_some hu (by simp)
    split at hg
    · rename_i b hb
      have : (Instr.index t (e x) (e ix)).run P w = .ok (den ρ (.int .u8 b.toNat)) w := by
        rw [he.eq x hx, ha, den, hik]
        have hb' : str[i]? = some b := by
          have h := List.getElem?_eq_some_iff.1 hb
          obtain ⟨h1, h2⟩ := h
          have hsz : i < str.size := h1
          rw [getElem?_pos str i hsz]
          exact congrArg some h2
        simp [Instr.index, asIntOf, Sem.run_bind, run_underlying hu', hb', den]
      rw [this]
      exact GoesV.val hr (by rw [okV]; trivial) hg
    · exact absurd hg R.fail
  · exact absurd hg R.fail
end Go.Ab
