/- Each operation's rule is sound: part one. -/
import Derived.Test.YtooblilpklkpiaaGreatAbRel
import Derived.Laws.Cells
import Derived.Laws.Entries
import Derived.Laws.CopyRow
set_option linter.unusedSimpArgs false
set_option linter.unusedVariables false
namespace Go.Ab
structure Runner (G : HM → St → Prop) : Prop where
  fail : ∀ {s}, ¬ G .fail s
  gb : ∀ {b k s}, G (.gb b k) s → ∃ x, s.h.get b = some x ∧ G (k x) s
  sb : ∀ {b v k s}, G (.sb b v k) s → (∃ x, s.h.get b = some x) ∧ G k ⟨s.h.upd (some v) b, s.next⟩
  mk_ : ∀ {x k s}, G (.mk x k) s → G (k s.next) (s.put x)
  kill : ∀ {b k s}, G (.kill b k) s → G k ⟨s.h.upd none b, s.next⟩
  choose : ∀ {n k s}, G (.choose n k) s → ∀ i, (n ≤ 1 → i = 0) → (¬ n ≤ 1 → i < n) → G (k i) s
  iso : ∀ {m k s}, G (.iso m k) s → ∃ v s' l, m.run s .nil = some (v, s', l) ∧ G (k v l) s'
variable {P : Program} {w0 : World}
structure EvR (P : Program) (ρ : Env) (nx : Nat) (A : Tree Value) (e : Operand → Value) : Prop where
  eq : ∀ x, okOpd P x = true → e x = den ρ (ev A x)
  ok : ∀ x, okOpd P x = true → okV nx (ev A x)
/-- What a rule gives: a value, a state, a world. -/
def Goes (P : Program) (w0 : World) (G : HM → St → Prop) (k : Value → HM) (ρ : Env) (s : St) (r : Result Next) : Prop :=
  ∃ V s' ρ' w', G (k V) s' ∧ Rel P w0 ρ' s' w' ∧ Ext s.next ρ ρ' ∧ s.next ≤ s'.next ∧ okV s'.next V ∧ (r = .ok (.value (den ρ' V)) w' ∨ (r = .ok .skip w' ∧ V = undef))
/-- The same for a run that gives a value. -/
def GoesV (P : Program) (w0 : World) (G : HM → St → Prop) (k : Value → HM) (ρ : Env) (s : St) (r : Result Value) : Prop :=
  ∃ V s' ρ' w', G (k V) s' ∧ Rel P w0 ρ' s' w' ∧ Ext s.next ρ ρ' ∧ s.next ≤ s'.next ∧ okV s'.next V ∧ r = .ok (den ρ' V) w'
def GoesU (P : Program) (w0 : World) (G : HM → St → Prop) (k : Value → HM) (ρ : Env) (s : St) (r : Result Unit) : Prop :=
  ∃ s' ρ' w', G (k undef) s' ∧ Rel P w0 ρ' s' w' ∧ Ext s.next ρ ρ' ∧ s.next ≤ s'.next ∧ r = .ok () w'
variable {G : HM → St → Prop} {k : Value → HM} {ρ : Env} {s : St} {w : World}
theorem GoesV.goes {x : Sem Value} (h : GoesV P w0 G k ρ s (x.run P w)) : Goes P w0 G k ρ s ((do pure (.value (← x)) : Sem Next).run P w) := by
  obtain ⟨V, s', ρ', w', h1, h2, h3, h4, h5, h6⟩ := h
  exact ⟨V, s', ρ', w', h1, h2, h3, h4, h5, .inl (by simp [h6])⟩
theorem GoesU.goes {x : Sem Unit} (h : GoesU P w0 G k ρ s (x.run P w)) : Goes P w0 G k ρ s ((do x; pure .skip : Sem Next).run P w) := by
  obtain ⟨s', ρ', w', h1, h2, h3, h4, h5⟩ := h
  exact ⟨undef, s', ρ', w', h1, h2, h3, h4, ok_undef _, .inr ⟨by simp [h5], rfl⟩⟩
theorem GoesV.val (hr : Rel P w0 ρ s w) {V : Value} (hv : okV s.next V) (hg : G (k V) s) : GoesV P w0 G k ρ s (.ok (den ρ V) w) :=
  ⟨V, s, ρ, w, hg, hr, Ext.refl _ _, Nat.le_refl _, hv, rfl⟩
theorem Goes.val (hr : Rel P w0 ρ s w) {V : Value} (hv : okV s.next V) (hg : G (k V) s) : Goes P w0 G k ρ s (.ok (.value (den ρ V)) w) :=
  ⟨V, s, ρ, w, hg, hr, Ext.refl _ _, Nat.le_refl _, hv, .inl rfl⟩
theorem retO_some {o : Option Value} {k : Value → HM} {G : HM → St → Prop} (R : Runner G) (h : G (retO o k) s) : ∃ v, o = some v ∧ G (k v) s := by
  cases o with
  | none => exact absurd h R.fail
  | some v => exact ⟨v, rfl, h⟩

/-! Types -/
theorem under_some {t : TypeId} {d : TypeDesc} (h : under P t = d) (hd : d ≠ .invalid) : P.underlying t = some d := by
  unfold under at h
  cases e : P.underlying t with
  | none => rw [e] at h; exact absurd h.symm hd
  | some x => rw [e] at h; exact congrArg some h
theorem szO_some {t : TypeId} {n : Nat} (h : szO P t = some n) : (sizeOf t).run P w = .ok n w ∧ cellsOf P t = n := by
  unfold szO at h
  cases e : P.info? t with
  | none => rw [e] at h; simp at h
  | some i =>
    rw [e] at h
    simp at h
    exact ⟨by simp [sizeOf, typeInfo, e, h], by simp [cellsOf, e, h]⟩
theorem run_sizeOf' {t : TypeId} (h : (P.info? t).isSome = true) : (sizeOf t).run P w = .ok (cellsOf P t) w := by
  cases e : P.info? t with
  | none => simp [e] at h
  | some i => simp [sizeOf, typeInfo, e, cellsOf]
theorem zeroOf_some {t : TypeId} {z : Value} (h : zeroOf P t = some z) : (zeroValue t).run P w = .ok z w := by
  unfold zeroOf at h
  cases e : P.info? t with
  | none => rw [e] at h; simp at h
  | some i =>
    rw [e] at h
    simp at h
    simp [zeroValue, typeInfo, e, h]
theorem aggO_run {t : TypeId} {b : Bool} (h : aggO P t = some b) : (isAgg t).run P w = .ok b w := by
  unfold aggO at h
  cases e : P.underlying t with
  | none => rw [e] at h; simp at h
  | some d =>
    rw [e] at h
    simp at h
    subst h
    simp only [isAgg, Sem.run_bind, run_underlying e, Result.andThen_ok]
    cases d <;> rfl

/-! Cells -/
theorem add_zero (a : Addr) : a.add 0 = a := by simp [Addr.add]
theorem addrD_off {a : Addr} (h : a.spot = none) (i : Nat) : (addrD ρ a).add i = ⟨(ρ a.block).b, (ρ a.block).base + (a.off + i), none⟩ := by
  unfold Addr.add addrD
  split
  · rename_i e; subst e; simp [h]
  · simp [Nat.add_assoc]
theorem addrD_add {a : Addr} (h : a.spot = none) (i : Nat) : (addrD ρ a).add i = addrD ρ (a.add i) := by
  rw [addrD_off h]
  unfold Addr.add addrD
  split
  · rename_i e; subst e; simp [h]
  · simp
theorem add_ok {n : Nat} {a : Addr} (h : okAd n a) (i : Nat) : okAd n (a.add i) := by
  unfold Addr.add
  split
  · exact h
  · exact ⟨h.1, rfl⟩
theorem Rel.cell (hr : Rel P w0 ρ s w) {b e n : Nat} {c : Tree Value} (hb : s.h.get b = some (.cells e n c)) {o : Nat} {v : Value} (hv : c.get o = some v) :
    w.cell? ⟨(ρ b).b, (ρ b).base + o, none⟩ = some (den ρ v) ∧ w.frozen? ⟨(ρ b).b, (ρ b).base + o, none⟩ = false ∧ okV s.next v ∧ o < n := by
  obtain ⟨_, _, cs, h3, _, h5⟩ := hr.blk b _ hb
  obtain ⟨h6, h7, h8⟩ := h5 o v hv
  exact ⟨by simp [World.cell?, h3, h8], by simp [World.frozen?, h3], h7, h6⟩
theorem cellsB_some (R : Runner G) {b : Nat} {f : Nat → Nat → Tree Value → HM} (h : G (cellsB b f) s) : ∃ e n c, s.h.get b = some (.cells e n c) ∧ G (f e n c) s := by
  obtain ⟨x, hx, hg⟩ := R.gb h
  cases x with
  | cells e n c => exact ⟨e, n, c, hx, hg⟩
  | _ => exact absurd hg R.fail
theorem takeC_some {c : Tree Value} : ∀ {n off : Nat} {l : List Value}, takeC c off n = some l → l.length = n ∧ ∀ j v, l[j]? = some v → c.get (off + j) = some v
  | 0, off, l, h => by simp [takeC] at h; subst h; simp
  | n + 1, off, l, h => by
    rw [takeC] at h
    split at h
    · rename_i v hv
      cases e : takeC c (off + 1) n with
      | none => rw [e] at h; simp at h
      | some l' =>
        rw [e] at h
        simp at h
        subst h
        obtain ⟨h1, h2⟩ := takeC_some e
        refine ⟨by simp [h1], fun j u hj => ?_⟩
        cases j with
        | zero => simp at hj; subst hj; exact hv
        | succ j => simp at hj; rw [show off + (j + 1) = off + 1 + j from by omega]; exact h2 j u hj
    · simp at h
theorem loadN_some (R : Runner G) (hr : Rel P w0 ρ s w) {a : Addr} (ha : a.spot = none) {n : Nat} {f : List Value → HM} (h : G (loadN a.block a.off n f) s) :
    ∃ l, G (f l) s ∧ l.length = n ∧ okL s.next l ∧ (loadCells (addrD ρ a) n).run P w = .ok ⟨l.map (den ρ)⟩ w := by
  obtain ⟨e, m, c, hb, hg⟩ := cellsB_some R h
  cases ht : takeC c a.off n with
  | none => rw [ht] at hg; exact absurd hg R.fail
  | some l =>
    rw [ht] at hg
    obtain ⟨h1, h2⟩ := takeC_some ht
    refine ⟨l, hg, h1, (okL_iff _ _).2 fun v hv => ?_, ?_⟩
    · obtain ⟨j, hj⟩ := List.getElem?_of_mem hv
      exact (hr.cell hb (h2 j v hj)).2.2.1
    · have := run_loadCells_list (P := P) w (addrD ρ a) (l.map (den ρ)) (fun j v hj => by
        rw [List.getElem?_map] at hj
        cases e : l[j]? with
        | none => rw [e] at hj; simp at hj
        | some u =>
          rw [e] at hj
          simp at hj
          subst hj
          rw [addrD_off ha]
          exact (hr.cell hb (h2 j u e)).1)
      rw [List.length_map, h1] at this
      simpa using this

theorem oneCell_den (ρ : Env) (v : Value) : (den ρ v).oneCell' = v.oneCell' := by
  cases v with
  | slice a l c => cases a <;> simp [den, Value.oneCell']
  | _ => simp [den, Value.oneCell']
theorem putC_some : ∀ {l : List Value} {c : Tree Value} {off : Nat} {c' : Tree Value}, putC c off l = some c' →
    (∀ j, j < l.length → ∃ v, c.get (off + j) = some v) ∧ (∀ v ∈ l, v.oneCell' = true) ∧
    (∀ i, c'.get i = if off ≤ i ∧ i < off + l.length then l[i - off]? else c.get i)
  | [], c, off, c', h => by
    simp [putC] at h; subst h
    refine ⟨by simp, by simp, fun i => ?_⟩
    rw [if_neg (by simp)]
  | v :: l, c, off, c', h => by
    rw [putC] at h
    split at h
    · rename_i u hu hx
      obtain ⟨h1, h2, h3⟩ := putC_some h
      refine ⟨fun j hj => ?_, fun y hy => ?_, fun i => ?_⟩
      · cases j with
        | zero => exact ⟨u, hu⟩
        | succ j =>
          obtain ⟨y, hy⟩ := h1 j (by simp at hj; omega)
          rw [Tree.get_upd_ne _ _ _ _ (by omega)] at hy
          exact ⟨y, by rw [show off + (j + 1) = off + 1 + j from by omega]; exact hy⟩
      · cases hy with
        | head => exact hx
        | tail _ hy => exact h2 y hy
      · rw [h3 i]
        by_cases e : i = off
        · subst e
          rw [if_neg (by omega), Tree.get_upd, if_pos (by simp)]
          simp
        · by_cases e2 : off + 1 ≤ i ∧ i < off + 1 + l.length
          · rw [if_pos e2, if_pos (by simp; omega)]
            rw [show i - off = (i - (off + 1)) + 1 from by omega, List.getElem?_cons_succ]
          · rw [if_neg e2, if_neg (by simp; omega), Tree.get_upd_ne _ _ _ _ (by omega)]
    · simp at h

theorem setRow_world (w : World) (g : Nat) (c : Array Value) : (w.setRow g c).tape = w.tape ∧ (w.setRow g c).os = w.os ∧ (w.setRow g c).output = w.output ∧ (w.setRow g c).heap.size = w.heap.size ∧ ∀ b, b ≠ g → (w.setRow g c).heap[b]? = w.heap[b]? := by
  refine ⟨rfl, rfl, rfl, ?_, fun b hb => ?_⟩
  · simp [World.setRow]
  · simp [World.setRow, Array.getElem?_modify, Ne.symm hb]
theorem storeN_some (R : Runner G) (hr : Rel P w0 ρ s w) {a : Addr} (ha : okAd s.next a) {l : List Value} (hl : okL s.next l) {f : HM} (h : G (storeN P a.block a.off l f) s) :
    ∃ s' w', G f s' ∧ Rel P w0 ρ s' w' ∧ s'.next = s.next ∧ (storeCells (addrD ρ a) (l.map (den ρ))).run P w = .ok () w' := by
  cases l with
  | nil => exact ⟨s, w, h, hr, rfl, rfl⟩
  | cons v l =>
    unfold storeN at h
    obtain ⟨e, n, c, hb, hg⟩ := cellsB_some R h
    cases hgl : Nat.ble P.globals.size a.block with
    | false => simp only [hgl] at hg; exact absurd hg R.fail
    | true =>
      have hgl' := Nat.le_of_ble_eq_true hgl
      cases ht : putC c a.off (v :: l) with
      | none => simp only [hgl, ht] at hg; exact absurd hg R.fail
      | some c' =>
        simp only [hgl, ht] at hg
        obtain ⟨_, hG⟩ := R.sb hg
        obtain ⟨h1, h2, h3⟩ := putC_some ht
        obtain ⟨b1, b2, cs, b3, b4, b5⟩ := hr.blk _ _ hb
        have hin : ∀ j, j < (v :: l).length → a.off + j < n := fun j hj => by
          obtain ⟨u, hu⟩ := h1 j hj; exact (b5 _ _ hu).1
        have hlen : a.off + (v :: l).length ≤ n := by have := hin (v :: l).length.pred (by simp); simp at this ⊢; omega
        have hrun := run_storeCells_at (P := P) (ρ a.block).b ((ρ a.block).base + a.off) e ((v :: l).map (den ρ)) 0 cs w b3 (by simp at hlen ⊢; omega)
          (fun x hx => by
            obtain ⟨y, hy, rfl⟩ := List.mem_map.1 hx
            rw [oneCell_den]; exact h2 y hy)
        have hadr : addrD ρ a = ⟨(ρ a.block).b, (ρ a.block).base + a.off, none⟩ := by unfold addrD; rw [ha.2]
        refine ⟨_, _, hG, ?_, rfl, by rw [hadr]; exact hrun⟩
        obtain ⟨w1, w2, w3, w4, w5⟩ := setRow_world w (ρ a.block).b ((cs.toList.take ((ρ a.block).base + a.off + 0)) ++ (v :: l).map (den ρ) ++ cs.toList.drop ((ρ a.block).base + a.off + 0 + ((v :: l).map (den ρ)).length)).toArray
        refine hr.write hb hgl' ?_ w5 w4 w1 w2 w3
        refine ⟨b1, b2, _, setRow_heap w _ cs _ e (0, 0) b3, ?_, fun i u hu => ?_⟩
        · simp at hlen ⊢; omega
        · rw [h3 i] at hu
          have hbs : (ρ a.block).base + a.off ≤ cs.toList.length := by simp at hlen ⊢; omega
          by_cases e2 : a.off ≤ i ∧ i < a.off + (v :: l).length
          · rw [if_pos e2] at hu
            refine ⟨by simp at hlen e2 ⊢; omega, (okL_iff _ _).1 hl u (List.mem_of_getElem? hu), ?_⟩
            simp only [Nat.add_zero, List.getElem?_toArray]
            rw [List.append_assoc, List.getElem?_append_right (by simp; omega), List.getElem?_append_left (by simp at e2 ⊢; omega)]
            rw [List.getElem?_map]
            rw [show (ρ a.block).base + i - (List.take ((ρ a.block).base + a.off) cs.toList).length = i - a.off from by rw [List.length_take, Nat.min_eq_left hbs]; omega, hu]
            rfl
          · rw [if_neg e2] at hu
            obtain ⟨u1, u2, u3⟩ := b5 i u hu
            refine ⟨u1, u2, ?_⟩
            rw [← u3]
            simp only [Nat.add_zero, List.getElem?_toArray]
            by_cases e3 : i < a.off
            · rw [List.append_assoc, List.getElem?_append_left (by rw [List.length_take, Nat.min_eq_left hbs]; omega), List.getElem?_take, if_pos (by omega)]
              simp
            · rw [List.getElem?_append_right (by simp at e2 ⊢; omega), List.getElem?_drop]
              simp only [List.length_append, List.length_take, List.length_map, Nat.min_eq_left hbs]
              have : (ρ a.block).base + a.off + (v :: l).length + ((ρ a.block).base + i - ((ρ a.block).base + a.off + (v :: l).length)) = (ρ a.block).base + i := by simp at e2 ⊢; omega
              rw [this]
              simp
end Go.Ab
