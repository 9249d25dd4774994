/- Each operation's rule is sound: part eight: append. -/
import Derived.Test.YtooblilpklkpiaaGreatAbOps7
set_option linter.unusedSimpArgs false
set_option linter.unusedVariables false
namespace Go.Ab
variable {P : Program} {w0 : World} {G : HM → St → Prop} {k : Value → HM} {ρ : Env} {s : St} {w : World} {A : Tree Value} {e : Operand → Value} {o : Oper}
theorem growBy_le (m : Nat) : ∀ (r c : Nat), Builtin.growBy m r c + 768 ≤ (c + 768) * 2 ^ r
  | 0, c => by simp [Builtin.growBy]
  | r + 1, c => by
    rw [Builtin.growBy]
    split
    · have : 1 ≤ 2 ^ (r + 1) := Nat.one_le_two_pow
      calc c + 768 = (c + 768) * 1 := by omega
        _ ≤ (c + 768) * 2 ^ (r + 1) := Nat.mul_le_mul_left _ this
    · have h := growBy_le m r (c + (c + 768) / 4)
      refine Nat.le_trans h ?_
      rw [Nat.pow_succ, Nat.mul_comm (2 ^ r) 2, ← Nat.mul_assoc]
      exact Nat.mul_le_mul_right _ (by omega)
theorem nextcap_le {need cap : Nat} (h1 : need ≤ 2 ^ 20) (h2 : cap < need) : Builtin.nextslicecap need cap ≤ 2 ^ 30 := by
  unfold Builtin.nextslicecap
  split
  · omega
  · split
    · omega
    · have := growBy_le need 4 cap
      omega
theorem zeroCells_size (z : Array Value) (n : Nat) : (Builtin.zeroCells z n).size = n * z.size := by simp [Builtin.zeroCells]
structure AppHyp (P : Program) (st xt elem size : Nat) (z : Value) : Prop where
  hst : P.underlying st = some (.slice elem)
  hxt : ∃ d, P.underlying xt = some d ∧ (∀ k, d ≠ .int k)
  hsz : szO P elem = some size
  hz : zeroOf P elem = some z
  hzs : z.cells.size = size
  hby : bytesOf P elem ≤ 2 ^ 10
theorem zeros_false {d : TypeDesc} (h : ∀ k, d ≠ .int k) : (match d with | .int _ => true | _ => false) = false := by
  cases d <;> first | rfl | exact absurd rfl (h _)
theorem app_place {st xt elem size : Nat} {z : Value} (H : AppHyp P st xt elem size z) {ts : List TypeId} {vs : List Value} {T : TypeId} {base : Option Addr} {len sc n : Nat} {x : Value} (hn : (Builtin.lenOf x).run P w = .ok n w) (hle : len + n ≤ sc)
    {new : Array Value} {w' : World} (h1 : (Builtin.firstCells size n x).run P w = .ok new w) (h2 : (match base with | some a => storeCells (a.add (len * size)) new.toList | none => pure ()).run P w = .ok () w') :
    (Builtin.append_ ⟨st :: xt :: ts⟩ T ⟨.slice base len sc :: x :: vs⟩).run P w = .ok (.slice base (len + n) sc) w' := by
  obtain ⟨d, hd, hd'⟩ := H.hxt
  have e1 : (⟨st :: xt :: ts⟩ : Array TypeId)[0]? = some st := rfl
  have e2 : (⟨st :: xt :: ts⟩ : Array TypeId)[1]? = some xt := rfl
  have e3 : (⟨.slice base len sc :: x :: vs⟩ : Array Value)[0]? = some (.slice base len sc) := rfl
  have e4 : (⟨.slice base len sc :: x :: vs⟩ : Array Value)[1]? = some x := rfl
  unfold Builtin.append_
  simp only [e1, e2, e3, e4, Sem.run_bind, run_underlying H.hst, Result.andThen_ok, (szO_some H.hsz).1, run_underlying hd, Sem.run_pure]
  have hz := zeros_false hd'
  cases base with
  | none =>
    simp only [Sem.run_pure] at h2
    cases d <;> first
      | exact absurd rfl (hd' _)
      | (simp [hn, hle, h1]; simpa using h2)
  | some a =>
    simp only at h2
    cases d <;> first
      | exact absurd rfl (hd' _)
      | simp [hn, hle, h1, h2]
theorem app_grow {st xt elem size : Nat} {z : Value} (H : AppHyp P st xt elem size z) {ts : List TypeId} {vs : List Value} {T : TypeId} {base : Option Addr} {len sc n : Nat} {x : Value} (hn : (Builtin.lenOf x).run P w = .ok n w) (hle : ¬ len + n ≤ sc) (hsm : len + n ≤ 2 ^ 20)
    {old new : Array Value} {w1 : World} (hw1 : w1 = { w with drawn := w.drawn + 1 }) (h1 : (Builtin.firstCells size len (.slice base len sc)).run P w1 = .ok old w1) (h2 : (Builtin.firstCells size n x).run P w1 = .ok new w1) :
    ∃ extra, (Builtin.append_ ⟨st :: xt :: ts⟩ T ⟨.slice base len sc :: x :: vs⟩).run P w = .ok (.slice (some ⟨w1.heap.size, 0, none⟩) (len + n) (len + n + extra)) { w1 with heap := w1.heap.push (.cells (old ++ new ++ Builtin.zeroCells z.cells extra) elem) } := by
  obtain ⟨d, hd, hd'⟩ := H.hxt
  have e1 : (⟨st :: xt :: ts⟩ : Array TypeId)[0]? = some st := rfl
  have e2 : (⟨st :: xt :: ts⟩ : Array TypeId)[1]? = some xt := rfl
  have e3 : (⟨.slice base len sc :: x :: vs⟩ : Array Value)[0]? = some (.slice base len sc) := rfl
  have e4 : (⟨.slice base len sc :: x :: vs⟩ : Array Value)[1]? = some x := rfl
  have hi : ∃ i, P.info? elem = some i := by
    have := H.hz
    unfold zeroOf at this
    cases hh : P.info? elem with
    | none => rw [hh] at this; simp at this
    | some i => exact ⟨i, rfl⟩
  obtain ⟨i, hi⟩ := hi
  have hti : ∀ w, (typeInfo elem).run P w = .ok i w := fun w => by simp [typeInfo, hi]
  have hby : i.bytes ≤ 2 ^ 10 := by have := H.hby; simp [bytesOf, hi] at this; omega
  have hcap := nextcap_le hsm (Nat.lt_of_not_le hle)
  have hmul : Builtin.nextslicecap (len + n) sc * i.bytes ≤ 2 ^ 30 * 2 ^ 10 := Nat.mul_le_mul hcap hby
  have hnot : ¬ Builtin.nextslicecap (len + n) sc * i.bytes > 2 ^ 48 := by omega
  have hbig : ¬ (((len + n : Nat) : Int) > IntKind.i64.max) := by
    have : IntKind.i64.max = 9223372036854775807 := by decide
    rw [this]; omega
  refine ⟨w.tape w.drawn (.appendCap (len + n) sc elem) % (2 ^ 63 - (len + n)), ?_⟩
  generalize hex : w.tape w.drawn (.appendCap (len + n) sc elem) % (2 ^ 63 - (len + n)) = extra
  have hch : (choose (.appendCap (len + n) sc elem)).run P w = .ok (len + n + extra) w1 := by
    rw [Go.run_choose]
    simp only [Question.forced, Bool.false_eq_true, if_false, Question.cut, hex, hw1]
  have hsub : len + n + extra - (len + n) = extra := by omega
  unfold Builtin.append_
  simp only [e1, e2, e3, e4, Sem.run_bind, run_underlying H.hst, Result.andThen_ok, (szO_some H.hsz).1, run_underlying hd, Sem.run_pure]
  cases d <;> first
    | exact absurd rfl (hd' _)
    | (simp only [Bool.false_eq_true, if_false, hn, Result.andThen_ok, if_neg hle, hti, Sem.run_bind, Sem.run_pure, hbig, false_and, hnot, Sem.run_ite, Bool.not_false, if_true]
       rw [hch]
       simp only [Result.andThen_ok, run_askRoom, h1, h2, zeroOf_some H.hz, hsub, Go.newRow, Sem.run_bind, Sem.run_pure, run_newObj])

theorem builtin_run {c : Call} {b : Builtin} (ho : o.op = .call c) (hc : c.callee = .builtin b) :
    (execOp e o).run P w = (builtin b c.argTypes o.type (c.args.map fun | .const _ => true | _ => false) (c.args.map e)).run P w := by
  simp only [execOp, ho, resolve, hc, pure_bind]
  rfl
theorem args_ev {c : Call} (he : EvR P ρ s.next A e) (hargs : ∀ x ∈ c.args.toList, okOpd P x = true) : c.args.map e = ⟨(c.args.toList.map (ev A)).map (den ρ)⟩ ∧ okL s.next (c.args.toList.map (ev A)) := by
  obtain ⟨h1, h2⟩ := map_ev he hargs
  refine ⟨?_, h2⟩
  apply Array.ext'
  rw [Array.toList_map, h1]
theorem lenA_run {x : Value} {n : Nat} (h : lenA x = some n) : (Builtin.lenOf (den ρ x)).run P w = .ok n w := by
  unfold lenA at h
  split at h
  · rename_i a l c
    simp at h; subst h
    cases a <;> (rw [den]; rfl)
  · simp at h; subst h; rw [den]; rfl
  · simp at h
theorem firstCells_len {size n : Nat} {x : Value} (R : Runner G) {f : List Value → HM} (hn : lenA x = some n) (hg : G (firstCellsA size n x f) s) : True := trivial
theorem inPlace_some (R : Runner G) (hr : Rel P w0 ρ s w) {st xt elem size : Nat} {z : Value} (H : AppHyp P st xt elem size z) {ts : List TypeId} {vs : List Value} {T : TypeId} {base : Option Addr} {len cap n : Nat} {x : Value}
    (hb : okV s.next (.slice base len cap)) (hx : okV s.next x) (hn : lenA x = some n) (hcap : cap % 3 ≠ 2) (hnone : base = none → cap = 0) (hle : ∀ a, base = some a → len + n ≤ sCap ρ a cap) (hle0 : base = none → len + n ≤ 0)
    (hg : G (inPlaceA P size base len n cap x k) s) :
    GoesV P w0 G k ρ s ((Builtin.append_ ⟨st :: xt :: ts⟩ T ⟨den ρ (.slice base len cap) :: den ρ x :: vs⟩).run P w) := by
  unfold inPlaceA at hg
  cases base with
  | none =>
    have hc0 := hnone rfl
    have hl0 := hle0 rfl
    subst hc0
    have hn0 : n = 0 := by omega
    have hlen0 : len = 0 := by omega
    subst hn0 hlen0
    have h1 : (Builtin.firstCells size 0 (den ρ x)).run P w = .ok #[] w := by
      unfold lenA at hn
      split at hn
      · rename_i a l c
        cases a with
        | none => rw [den]; rfl
        | some a => rw [den]; simp [Builtin.firstCells, loadCells, loadCellsFrom]
      · rename_i str
        rw [den]
        simp only [Builtin.firstCells, Sem.run_pure]
        congr 1
        apply Array.ext'
        simp [ByteArray.data_extract]
      · simp at hn
    have := app_place (P := P) (w := w) H (ts := ts) (vs := vs) (T := T) (base := none) (len := 0) (sc := 0) (lenA_run (ρ := ρ) hn) (by omega) h1 rfl
    rw [den]
    rw [this]
    simp only [Nat.add_zero] at hg ⊢
    have hd : Value.slice none 0 0 = den ρ (.slice none 0 0) := by rw [den]
    rw [hd]
    exact GoesV.val hr (by rw [okV]; intro y hy; simp at hy) hg
  | some a =>
    rw [okV] at hb
    have ha := hb a rfl
    obtain ⟨l, f1, f2, f3⟩ := firstCells_some R hr hx hg
    have hadd : (addrD ρ a).add (len * size) = addrD ρ (a.add (len * size)) := addrD_add ha.2 _
    have hblk : (a.add (len * size)).block = a.block := by unfold Addr.add; split <;> rfl
    have hoff : (a.add (len * size)).off = a.off + len * size := by unfold Addr.add; split <;> simp_all
    have hst := storeN_some (a := a.add (len * size)) (l := l) (f := k (.slice (some a) (len + n) cap)) R hr (add_ok ha _) f2 (by rw [hblk, hoff]; exact f1)
    obtain ⟨s', w', g1, g2, g3, g4⟩ := hst
    have := app_place (P := P) (w := w) H (ts := ts) (vs := vs) (T := T) (base := some (addrD ρ a)) (len := len) (sc := sCap ρ a cap) (lenA_run (ρ := ρ) hn) (hle a rfl) f3 (by simp only [hadd]; exact g4)
    rw [slice_den hcap, this]
    refine ⟨_, s', ρ, w', g1, g2, Ext.refl _ _, by omega, ?_, ?_⟩
    · rw [okV]; intro y hy; simp at hy; subst hy; rw [g3]; exact ha
    · rw [slice_den hcap]
/-- The new row of a grown slice. -/
theorem grow_row (R : Runner G) (hr : Rel P w0 ρ s w) {elem m size extra : Nat} {cells : List Value} {z : Value} (hc : okL s.next cells) (hsz : cellsOf P elem = size) (hz : z.cells.size = size) {f : Nat → HM} (h : G (newRow P elem m cells f) s) :
    ∃ s' ρ', G (f s.next) s' ∧ s'.next = s.next + 1 ∧ Ext s.next ρ ρ' ∧ Rel P w0 ρ' s' { w with heap := w.heap.push (.cells (⟨cells.map (den ρ)⟩ ++ Builtin.zeroCells z.cells extra) elem) } ∧
      ρ' s.next = ⟨w.heap.size, 0, m + extra, size⟩ := by
  unfold newRow at h
  split at h
  · rename_i hl
    rw [hsz] at hl
    have hg := R.mk_ h
    obtain ⟨h1, h2⟩ := hr.new (L := ⟨w.heap.size, 0, m + extra, size⟩) (o := .cells (⟨cells.map (den ρ)⟩ ++ Builtin.zeroCells z.cells extra) elem) (x := .cells elem cells.length (Tree.ofList cells)) rfl (fun w' hw' => by
      refine ⟨hsz.symm, ?_, _, hw', ?_, fun i v hv => ?_⟩
      · rw [hl.1]; show m * size ≤ (m + extra) * size; exact Nat.mul_le_mul_right _ (Nat.le_add_right _ _)
      · simp [zeroCells_size, hz, hl.1, Nat.add_mul]
      · rw [Tree.get_ofList _ _ (Nat.lt_of_le_of_lt hl.2 (by decide))] at hv
        have hv' := (okL_iff _ _).1 hc v (List.mem_of_getElem? hv)
        have hlt := (List.getElem?_eq_some_iff.1 hv).1
        refine ⟨hlt, okV_mono (Nat.le_succ _) hv', ?_⟩
        rw [den_ext (ext_envN _ _ _) hv']
        simp only [Nat.zero_add]
        rw [Array.getElem?_append_left (by simp; exact hlt)]
        simp [hv])
    exact ⟨_, _, hg, rfl, h2, h1, envN_self _ _ _⟩
  · exact absurd h R.fail
theorem grow_some (R : Runner G) (hr : Rel P w0 ρ s w) {st xt elem size : Nat} {z : Value} (H : AppHyp P st xt elem size z) {ts : List TypeId} {vs : List Value} {T : TypeId} {base : Option Addr} {len cap n : Nat} {x : Value}
    (hb : okV s.next (.slice base len cap)) (hx : okV s.next x) (hn : lenA x = some n) (hsm : len + n ≤ 2 ^ 20) {sc : Nat} (hbase : den ρ (.slice base len cap) = .slice (base.map (addrD ρ)) len sc) (hgt : ¬ len + n ≤ sc) {kill : Option Nat}
    (hg : G (growA P elem size (len + n) base len n x kill k) s) :
    GoesV P w0 G k ρ s ((Builtin.append_ ⟨st :: xt :: ts⟩ T ⟨den ρ (.slice base len cap) :: den ρ x :: vs⟩).run P w) := by
  unfold growA at hg
  have hr1 : Rel P w0 ρ s { w with drawn := w.drawn + 1 } := hr.drawn rfl rfl rfl rfl
  obtain ⟨old, f1, f2, f3⟩ := firstCells_some R hr1 (x := .slice base len 0) (by rw [okV] at hb ⊢; exact hb) hg
  obtain ⟨new, g1, g2, g3⟩ := firstCells_some R hr1 hx f1
  have hok : okL s.next (old ++ new) := (okL_iff _ _).2 fun v hv => by
    rcases List.mem_append.1 hv with h | h
    · exact (okL_iff _ _).1 f2 v h
    · exact (okL_iff _ _).1 g2 v h
  have f3' : (Builtin.firstCells size len (.slice (base.map (addrD ρ)) len sc)).run P { w with drawn := w.drawn + 1 } = .ok ⟨old.map (den ρ)⟩ { w with drawn := w.drawn + 1 } := by
    cases base with
    | none => rw [den] at f3; exact f3
    | some a => rw [slice_den (by omega)] at f3; exact f3
  obtain ⟨extra, hrun⟩ := app_grow (P := P) (w := w) H (ts := ts) (vs := vs) (T := T) (lenA_run (ρ := ρ) hn) hgt hsm rfl f3' g3
  rw [hbase, hrun]
  have harr : (⟨old.map (den ρ)⟩ ++ ⟨new.map (den ρ)⟩ ++ Builtin.zeroCells z.cells extra : Array Value) = ⟨(old ++ new).map (den ρ)⟩ ++ Builtin.zeroCells z.cells extra := by
    apply Array.ext'; simp
  rw [harr]
  have fin : ∀ {s1 : St}, s1.next = s.next → Rel P w0 ρ s1 { w with drawn := w.drawn + 1 } → G (newRow P elem (len + n) (old ++ new) fun b => k (.slice (some ⟨b, 0, none⟩) (len + n) 1)) s1 →
      GoesV P w0 G k ρ s (.ok (.slice (some ⟨w.heap.size, 0, none⟩) (len + n) (len + n + extra)) { w with drawn := w.drawn + 1, heap := w.heap.push (.cells (⟨(old ++ new).map (den ρ)⟩ ++ Builtin.zeroCells z.cells extra) elem) }) := by
    intro s1 e1 hr' hg'
    obtain ⟨s', ρ', r1, r2, r3, r4, r5⟩ := grow_row (extra := extra) R hr' (by rw [e1]; exact hok) (szO_some (w := w) H.hsz).2 H.hzs hg'
    refine ⟨_, s', ρ', _, r1, r4, by rw [← e1]; exact r3, by omega, ?_, ?_⟩
    · rw [okV]; intro y hy; simp at hy; subst hy; exact ⟨by simp; omega, rfl⟩
    · rw [slice_den (by omega)]
      simp [addrD, r5, sCap, roomD]
  cases kill with
  | none => exact fin rfl hr1 g1
  | some b =>
    simp only at g1
    split at g1
    · exact absurd g1 R.fail
    · exact fin (s1 := ⟨s.h.upd none b, s.next⟩) rfl (hr1.kill b) (R.kill g1)

/-- A grown slice's block given up for a new one over the same cells: in place. -/
theorem kill_place (R : Runner G) (hr : Rel P w0 ρ s w) {st xt elem size known : Nat} {z : Value} (H : AppHyp P st xt elem size z) {ts : List TypeId} {vs : List Value} {T : TypeId} {a : Addr} {len n : Nat} {x : Value} {c : Tree Value}
    (ha : okAd s.next a) (hx : okV s.next x) (hn : lenA x = some n) (hb : s.h.get a.block = some (.cells elem known c)) (hpos : size ≠ 0) (hoff : a.off % size = 0) (hk : a.off + len * size ≤ known) (hle : len + n ≤ roomD ρ a)
    (hg : G (growA P elem size (len + n) (some a) len n x (some a.block) k) s) :
    GoesV P w0 G k ρ s ((Builtin.append_ ⟨st :: xt :: ts⟩ T ⟨.slice (some (addrD ρ a)) len (roomD ρ a) :: den ρ x :: vs⟩).run P w) := by
  have hsz := (szO_some (w := w) H.hsz).2
  unfold growA at hg
  obtain ⟨old, f1, f2, f3⟩ := firstCells_some R hr (x := .slice (some a) len 0) (by rw [okV]; intro y hy; simp at hy; subst hy; exact ha) hg
  obtain ⟨new, g1, g2, g3⟩ := firstCells_some R hr hx f1
  simp only at g1
  split at g1
  · exact absurd g1 R.fail
  · rename_i hgl
    simp only [Bool.or_eq_true, not_or, Bool.not_eq_true', Bool.not_eq_false] at hgl
    have hgl' : P.globals.size ≤ a.block := by
      have := hgl.1
      rw [Nat.blt_eq] at this; omega
    have hone0 : ∀ v ∈ new, v.oneCell' = true := by have := hgl.2; rw [List.all_eq_true] at this; exact this
    have g1 := R.kill g1
    obtain ⟨b1, b2, cs, b3, b4, b5⟩ := hr.blk _ _ hb
    rw [hsz] at b1
    unfold newRow at g1
    split at g1
    · rename_i hl
      rw [hsz] at hl
      have hG := R.mk_ g1
      -- the old cells
      have hold : old.length = len * size ∧ ∀ j v, old[j]? = some v → cs[(ρ a.block).base + (a.off + j)]? = some (den ρ v) := by
        by_cases h0 : len * size = 0
        · have : old = [] := by
            rw [slice_den (by omega)] at f3
            simp only [Builtin.firstCells, h0, loadCells, loadCellsFrom, Sem.run_pure, Result.ok.injEq, and_true] at f3
            have := congrArg Array.size f3
            simp at this
            exact List.eq_nil_of_length_eq_zero this.symm
          subst this
          simp [h0]
        · have hadr : addrD ρ a = ⟨(ρ a.block).b, (ρ a.block).base + a.off, none⟩ := by unfold addrD; rw [ha.2]
          have key : old.length = len * size := by
            have hh := f3
            rw [slice_den (by omega)] at hh
            simp only [Builtin.firstCells] at hh
            have hrow := run_loadCells (P := P) w (addrD ρ a) (len * size) (fun j => cs.getD ((ρ a.block).base + (a.off + j)) undef) (fun j hj => by
              rw [addrD_off ha.2]
              have : (ρ a.block).base + (a.off + j) < cs.size := by rw [b1] at b2; rw [b1] at b4; omega
              simp [World.cell?, b3, this])
            rw [hrow] at hh
            simp only [Result.ok.injEq, and_true] at hh
            have := congrArg Array.size hh
            simpa using this.symm
          refine ⟨key, fun j v hj => ?_⟩
          have hh := f3
          rw [slice_den (by omega)] at hh
          simp only [Builtin.firstCells] at hh
          have hrow := run_loadCells (P := P) w (addrD ρ a) (len * size) (fun j => cs.getD ((ρ a.block).base + (a.off + j)) undef) (fun j hj => by
            rw [addrD_off ha.2]
            have : (ρ a.block).base + (a.off + j) < cs.size := by rw [b1] at b2; rw [b1] at b4; omega
            simp [World.cell?, b3, this])
          rw [hrow] at hh
          simp only [Result.ok.injEq, and_true] at hh
          have hj' : j < len * size := by rw [← key]; exact (List.getElem?_eq_some_iff.1 hj).1
          have e1 : ((List.map (fun j => cs.getD ((ρ a.block).base + (a.off + j)) undef) (List.range (len * size))).toArray)[j]? = (⟨old.map (den ρ)⟩ : Array Value)[j]? := by rw [hh]
          simp [hj', hj] at e1
          have : (ρ a.block).base + (a.off + j) < cs.size := by rw [b1] at b2; rw [b1] at b4; omega
          simp [this] at e1 ⊢
          exact e1
      have hnew : new.length = n * size := by have := hl.1; simp [Nat.add_mul] at this; omega
      -- room
      obtain ⟨q, hq⟩ : ∃ q, a.off = q * size := ⟨a.off / size, by rw [Nat.div_mul_cancel (Nat.dvd_of_mod_eq_zero hoff)]⟩
      have hp : 0 < size := Nat.pos_of_ne_zero hpos
      have hroom : roomD ρ a = (ρ a.block).cap - q := by unfold roomD; rw [b1, hq, Nat.mul_div_cancel _ hp]
      have hqle : q ≤ (ρ a.block).cap := by
        have : q * size ≤ (ρ a.block).cap * size := by rw [← hq]; rw [b1] at b2; omega
        exact Nat.le_of_mul_le_mul_right this hp
      have hcapsz : a.off + roomD ρ a * size = (ρ a.block).cap * size := by rw [hroom, hq, ← Nat.add_mul]; congr 1; omega
      have hfit : (ρ a.block).base + a.off + (len + n) * size ≤ cs.size := by
        have : (len + n) * size ≤ roomD ρ a * size := Nat.mul_le_mul_right _ hle
        rw [b1] at b4; omega
      have hone : ∀ v ∈ new.map (den ρ), v.oneCell' = true := fun v hv => by
        obtain ⟨u, hu, rfl⟩ := List.mem_map.1 hv
        rw [oneCell_den]; exact hone0 u hu
      have hadr : (addrD ρ a).add (len * size) = ⟨(ρ a.block).b, (ρ a.block).base + (a.off + len * size), none⟩ := addrD_off ha.2 _
      have hrun := run_storeCells_at (P := P) (ρ a.block).b ((ρ a.block).base + (a.off + len * size)) elem (new.map (den ρ)) 0 cs w b3 (by simp [hnew]; rw [Nat.add_mul] at hfit; omega) hone
      obtain ⟨w1, w2, w3, w4, w5⟩ := setRow_world w (ρ a.block).b ((cs.toList.take ((ρ a.block).base + (a.off + len * size) + 0)) ++ new.map (den ρ) ++ cs.toList.drop ((ρ a.block).base + (a.off + len * size) + 0 + (new.map (den ρ)).length)).toArray
      have hap := app_place (P := P) (w := w) H (ts := ts) (vs := vs) (T := T) (base := some (addrD ρ a)) (len := len) (sc := roomD ρ a) (lenA_run (ρ := ρ) hn) hle g3 (by simp only [hadr]; exact hrun)
      rw [hap]
      have hL : (⟨(ρ a.block).b, (ρ a.block).base + a.off, roomD ρ a, size⟩ : Loc).b = (ρ a.block).b := rfl
      have hrel := hr.move (w' := w.setRow (ρ a.block).b ((cs.toList.take ((ρ a.block).base + (a.off + len * size) + 0)) ++ new.map (den ρ) ++ cs.toList.drop ((ρ a.block).base + (a.off + len * size) + 0 + (new.map (den ρ)).length)).toArray)
        (x := .cells elem (old ++ new).length (Tree.ofList (old ++ new))) (L := ⟨(ρ a.block).b, (ρ a.block).base + a.off, roomD ρ a, size⟩) hb hgl' rfl (by
          refine ⟨hsz.symm, ?_, _, setRow_heap w _ cs _ elem (0, 0) b3, ?_, fun i v hv => ?_⟩
          · rw [hl.1]; exact Nat.mul_le_mul_right _ hle
          · have e1 : (ρ a.block).base + a.off + roomD ρ a * size ≤ cs.size := by rw [b1] at b4; omega
            simp [hnew]
            rw [Nat.add_mul] at hfit
            omega
          · rw [Tree.get_ofList _ _ (Nat.lt_of_le_of_lt hl.2 (by decide))] at hv
            have hok : okV s.next v := by
              rcases List.mem_append.1 (List.mem_of_getElem? hv) with h | h
              · exact (okL_iff _ _).1 f2 v h
              · exact (okL_iff _ _).1 g2 v h
            refine ⟨(List.getElem?_eq_some_iff.1 hv).1, okV_mono (Nat.le_succ _) hok, ?_⟩
            rw [den_ext (ext_envN _ _ _) hok]
            have hbs : (ρ a.block).base + (a.off + len * size) ≤ cs.toList.length := by rw [Nat.add_mul] at hfit; simp; omega
            simp only [Nat.add_zero, List.getElem?_toArray]
            by_cases hi : i < len * size
            · rw [List.getElem?_append_left (by rw [hold.1]; exact hi)] at hv
              rw [List.append_assoc, List.getElem?_append_left (by rw [List.length_take, Nat.min_eq_left hbs]; omega), List.getElem?_take, if_pos (by omega)]
              have := hold.2 i v hv
              rw [show (ρ a.block).base + a.off + i = (ρ a.block).base + (a.off + i) from by omega]
              simpa using this
            · rw [List.getElem?_append_right (by rw [hold.1]; omega), hold.1] at hv
              rw [List.append_assoc, List.getElem?_append_right (by rw [List.length_take, Nat.min_eq_left hbs]; omega), List.length_take, Nat.min_eq_left hbs]
              have hlt := (List.getElem?_eq_some_iff.1 hv).1
              rw [List.getElem?_append_left (by simp; omega), List.getElem?_map]
              rw [show (ρ a.block).base + a.off + i - ((ρ a.block).base + (a.off + len * size)) = i - len * size from by omega, hv]
              rfl) w5 w4 w1 w2 w3
      refine ⟨_, _, _, _, hG, hrel, ext_envN _ _ _, Nat.le_succ _, ?_, ?_⟩
      · rw [okV]; intro y hy; simp at hy; subst hy; exact ⟨by simp [St.put], rfl⟩
      · rw [slice_den (by omega)]
        simp [addrD, envN_self, sCap, roomD, ha.2]
    · exact absurd g1 R.fail
end Go.Ab
