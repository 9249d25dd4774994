/- The run touches only what its log tells; runs that do not clash may change places. -/
import Derived.Test.YtooblilpklkpiaaGreatAbTree
namespace Go.Ab
def Log.All (p : Acc → Prop) : Log → Prop
  | .nil => True
  | .one a l => p a ∧ l.All p
  | .app x y => x.All p ∧ y.All p
theorem Log.All.imp {p q : Acc → Prop} (h : ∀ a, p a → q a) : ∀ {l : Log}, l.All p → l.All q
  | .nil, _ => trivial
  | .one _ _, ⟨a, b⟩ => ⟨h _ a, b.imp h⟩
  | .app _ _, ⟨a, b⟩ => ⟨a.imp h, b.imp h⟩

section eqs
variable (s : St) (l : Log)
theorem run_ret (v : Value) : (HM.ret v).run s l = some (v, s, l) := rfl
theorem run_fail : HM.fail.run s l = none := rfl
theorem run_gb (b : Nat) (k : Blk → HM) : (HM.gb b k).run s l = match s.h.get b with | some x => (k x).run s (.one (.rd b) l) | none => none := by
  show (Option.rec none (fun x => (k x).run s (.one (.rd b) l)) (s.h.get b) : Option (Value × St × Log)) = _
  cases s.h.get b <;> rfl
theorem run_sb (b : Nat) (v : Blk) (k : HM) : (HM.sb b v k).run s l = match s.h.get b with | some _ => k.run ⟨s.h.upd (some v) b, s.next⟩ (.one (.wr b (some v)) l) | none => none := by
  show (Option.rec none (fun _ => k.run ⟨s.h.upd (some v) b, s.next⟩ (.one (.wr b (some v)) l)) (s.h.get b) : Option (Value × St × Log)) = _
  cases s.h.get b <;> rfl
theorem run_mk (x : Blk) (k : Nat → HM) : (HM.mk x k).run s l =
    if s.next ≤ 1152921504606846976 then (k s.next).run ⟨s.h.upd (some x) s.next, s.next + 1⟩ (.one (.new s.next x) l) else none := by
  show (Bool.rec none ((k s.next).run ⟨s.h.upd (some x) s.next, s.next + 1⟩ (.one (.new s.next x) l)) (Nat.ble s.next 1152921504606846976) : Option _) = _
  by_cases h : s.next ≤ 1152921504606846976
  · rw [if_pos h, Nat.ble_eq_true_of_le h]
  · rw [if_neg h, show Nat.ble s.next 1152921504606846976 = false from by rw [← Bool.not_eq_true]; exact fun e => h (Nat.le_of_ble_eq_true e)]
theorem run_kill (b : Nat) (k : HM) : (HM.kill b k).run s l = k.run ⟨s.h.upd none b, s.next⟩ (.one (.wr b none) l) := rfl
theorem run_choose (n : Nat) (k : Nat → HM) : (HM.choose n k).run s l = if n ≤ 1 then (k 0).run s l else none := by
  show (Bool.rec none ((k 0).run s l) (Nat.ble n 1) : Option _) = _
  by_cases h : n ≤ 1
  · rw [if_pos h, Nat.ble_eq_true_of_le h]
  · rw [if_neg h, show Nat.ble n 1 = false from by rw [← Bool.not_eq_true]; exact fun e => h (Nat.le_of_ble_eq_true e)]
theorem run_iso (m : HM) (k : Value → Log → HM) : (HM.iso m k).run s l = match m.run s .nil with | some (v, s', l') => (k v l').run s' (.app l' l) | none => none := by
  show (Option.rec none (fun r => (k r.1 r.2.2).run r.2.1 (.app r.2.2 l)) (m.run s .nil) : Option (Value × St × Log)) = _
  cases m.run s .nil <;> rfl
end eqs

theorem run_mono {p : Acc → Prop} (m : HM) : ∀ {s l v s' l'}, m.run s l = some (v, s', l') → l'.All p → l.All p := by
  induction m with
  | ret v => intro s l v' s' l' h a; rw [run_ret] at h; simp at h; obtain ⟨_, _, rfl⟩ := h; exact a
  | fail => intro s l v' s' l' h a; simp [run_fail] at h
  | gb b k ih =>
    intro s l v' s' l' h a
    rw [run_gb] at h
    split at h
    · exact (ih _ h a).2
    · simp at h
  | sb b x k ih =>
    intro s l v' s' l' h a
    rw [run_sb] at h
    split at h
    · exact (ih h a).2
    · simp at h
  | mk x k ih =>
    intro s l v' s' l' h a
    rw [run_mk] at h
    split at h
    · exact (ih _ h a).2
    · simp at h
  | kill b k ih => intro s l v' s' l' h a; exact (ih h a).2
  | choose n k ih =>
    intro s l v' s' l' h a
    rw [run_choose] at h
    split at h
    · exact ih _ h a
    · simp at h
  | iso m k ihm ihk =>
    intro s l v' s' l' h a
    rw [run_iso] at h
    split at h
    · exact (ihk _ _ h a).2
    · simp at h

/-- A change of the state that the access does not see. -/
def Ind (p : St → St) : Acc → Prop
  | .rd b => ∀ s, (p s).h.get b = s.h.get b
  | .wr b x => ∀ s, (p s).h.get b = s.h.get b ∧ p ⟨s.h.upd x b, s.next⟩ = ⟨(p s).h.upd x b, (p s).next⟩
  | .new c x => ∀ s, (p s).next = s.next ∧ (s.next = c → p ⟨s.h.upd (some x) c, c + 1⟩ = ⟨(p s).h.upd (some x) c, c + 1⟩)

theorem run_fwd (p : St → St) (m : HM) : ∀ {s l v s' l'}, m.run s l = some (v, s', l') → l'.All (Ind p) → m.run (p s) l = some (v, p s', l') := by
  induction m with
  | ret v => intro s l v' s' l' h a; rw [run_ret] at h ⊢; simp at h ⊢; obtain ⟨rfl, rfl, rfl⟩ := h; exact ⟨rfl, rfl, rfl⟩
  | fail => intro s l v' s' l' h a; simp [run_fail] at h
  | gb b k ih =>
    intro s l v' s' l' h a
    rw [run_gb] at h ⊢
    split at h
    · rename_i x hx
      have i := (run_mono _ h a).1 s
      rw [i, hx]; exact ih _ h a
    · simp at h
  | sb b x k ih =>
    intro s l v' s' l' h a
    rw [run_sb] at h ⊢
    split at h
    · rename_i y hy
      obtain ⟨i, j⟩ := (run_mono _ h a).1 s
      rw [i, hy]
      have := ih h a
      rw [j] at this
      exact this
    · simp at h
  | mk x k ih =>
    intro s l v' s' l' h a
    rw [run_mk] at h ⊢
    split at h
    · rename_i hn
      obtain ⟨i, j⟩ := (run_mono _ h a).1 s
      have := ih _ h a
      rw [j rfl] at this
      rw [i, if_pos hn]; exact this
    · simp at h
  | kill b k ih =>
    intro s l v' s' l' h a
    rw [run_kill] at h ⊢
    obtain ⟨i, j⟩ := (run_mono _ h a).1 s
    have := ih h a
    rw [j] at this
    exact this
  | choose n k ih =>
    intro s l v' s' l' h a
    rw [run_choose] at h ⊢
    split at h
    · rename_i hn; rw [if_pos hn]; exact ih _ h a
    · simp at h
  | iso m k ihm ihk =>
    intro s l v' s' l' h a
    rw [run_iso] at h ⊢
    split at h
    · rename_i v1 s1 l1 h1
      rw [ihm h1 (run_mono _ h a).1]; exact ihk _ _ h a
    · simp at h

theorem run_bwd (p : St → St) (m : HM) : ∀ {s l v t l'}, m.run (p s) l = some (v, t, l') → l'.All (Ind p) → ∃ s', m.run s l = some (v, s', l') ∧ t = p s' := by
  induction m with
  | ret v => intro s l v' s' l' h a; rw [run_ret] at h; simp at h; obtain ⟨rfl, rfl, rfl⟩ := h; exact ⟨s, rfl, rfl⟩
  | fail => intro s l v' s' l' h a; simp [run_fail] at h
  | gb b k ih =>
    intro s l v' s' l' h a
    rw [run_gb] at h
    split at h
    · rename_i x hx
      have i := (run_mono _ h a).1 s
      rw [i] at hx
      obtain ⟨s2, r1, r2⟩ := ih _ h a
      exact ⟨s2, by rw [run_gb, hx]; exact r1, r2⟩
    · simp at h
  | sb b x k ih =>
    intro s l v' s' l' h a
    rw [run_sb] at h
    split at h
    · rename_i y hy
      obtain ⟨i, j⟩ := (run_mono _ h a).1 s
      rw [i] at hy
      rw [← j] at h
      obtain ⟨s2, r1, r2⟩ := ih h a
      exact ⟨s2, by rw [run_sb, hy]; exact r1, r2⟩
    · simp at h
  | mk x k ih =>
    intro s l v' s' l' h a
    rw [run_mk] at h
    split at h
    · rename_i hn
      obtain ⟨i, j⟩ := (run_mono _ h a).1 s
      rw [i] at h hn
      have j' := j i.symm
      rw [i] at j'
      rw [← j'] at h
      obtain ⟨s2, r1, r2⟩ := ih _ h a
      exact ⟨s2, by rw [run_mk, if_pos hn]; exact r1, r2⟩
    · simp at h
  | kill b k ih =>
    intro s l v' s' l' h a
    rw [run_kill] at h
    obtain ⟨i, j⟩ := (run_mono _ h a).1 s
    rw [← j] at h
    obtain ⟨s2, r1, r2⟩ := ih h a
    exact ⟨s2, by rw [run_kill]; exact r1, r2⟩
  | choose n k ih =>
    intro s l v' s' l' h a
    rw [run_choose] at h
    split at h
    · rename_i hn
      obtain ⟨s2, r1, r2⟩ := ih _ h a
      exact ⟨s2, by rw [run_choose, if_pos hn]; exact r1, r2⟩
    · simp at h
  | iso m k ihm ihk =>
    intro s l v' s' l' h a
    rw [run_iso] at h
    split at h
    · rename_i v1 s1 l1 h1
      obtain ⟨s2, r1, r2⟩ := ihm h1 (run_mono _ h a).1
      subst r2
      obtain ⟨s3, r3, r4⟩ := ihk _ _ h a
      exact ⟨s3, by rw [run_iso, r1]; exact r3, r4⟩
    · simp at h

/-- What a log does to a state. -/
noncomputable def eff1 : Acc → St → St
  | .rd _, s => s
  | .wr b x, s => ⟨s.h.upd x b, s.next⟩
  | .new c x, s => ⟨s.h.upd (some x) c, c + 1⟩
noncomputable def Log.eff : Log → St → St
  | .nil, s => s
  | .one a l, s => eff1 a (l.eff s)
  | .app x y, s => x.eff (y.eff s)
theorem run_eff (m : HM) : ∀ {s0 s l v s' l'}, m.run s l = some (v, s', l') → s = l.eff s0 → s' = l'.eff s0 := by
  induction m with
  | ret v => intro s0 s l v' s' l' h a; rw [run_ret] at h; simp at h; obtain ⟨rfl, rfl, rfl⟩ := h; exact a
  | fail => intro s0 s l v' s' l' h a; simp [run_fail] at h
  | gb b k ih =>
    intro s0 s l v' s' l' h a
    rw [run_gb] at h
    split at h
    · exact ih _ h a
    · simp at h
  | sb b x k ih =>
    intro s0 s l v' s' l' h a
    rw [run_sb] at h
    split at h
    · exact ih h (by rw [a]; rfl)
    · simp at h
  | mk x k ih =>
    intro s0 s l v' s' l' h a
    rw [run_mk] at h
    split at h
    · exact ih _ h (by rw [a]; rfl)
    · simp at h
  | kill b k ih => intro s0 s l v' s' l' h a; exact ih h (by rw [a]; rfl)
  | choose n k ih =>
    intro s0 s l v' s' l' h a
    rw [run_choose] at h
    split at h
    · exact ih _ h a
    · simp at h
  | iso m k ihm ihk =>
    intro s0 s l v' s' l' h a
    rw [run_iso] at h
    split at h
    · rename_i v1 s1 l1 h1
      exact ihk _ _ h (by rw [ihm (s0 := s) h1 rfl, a]; rfl)
    · simp at h

theorem clash1_comm (a b : Acc) : clash1 a b = clash1 b a := by
  have e : ∀ x y : Nat, Nat.beq x y = Nat.beq y x := fun x y => by
    rw [Bool.eq_iff_iff, Nat.beq_eq, Nat.beq_eq]; exact eq_comm
  cases a <;> cases b <;> simp [clash1] <;> exact e _ _
theorem beq_false {x y : Nat} (h : Nat.beq x y = false) : x ≠ y := fun e => by subst e; simp [Nat.beq_refl] at h
theorem ind_eff1 {a b : Acc} (h : clash1 a b = false) : Ind (eff1 a) b := by
  cases a with
  | rd x => cases b <;> exact fun s => by simp [eff1]
  | wr x y =>
    cases b with
    | rd c => exact fun s => Tree.get_upd_ne _ _ _ _ (beq_false h)
    | wr c z => exact fun s => ⟨Tree.get_upd_ne _ _ _ _ (beq_false h), by simp [eff1]; exact Tree.upd_comm _ _ _ _ _ (beq_false h)⟩
    | new c z => exact fun s => ⟨rfl, fun _ => by simp [eff1]; exact Tree.upd_comm _ _ _ _ _ (beq_false h)⟩
  | new x y =>
    cases b with
    | rd c => exact fun s => Tree.get_upd_ne _ _ _ _ (beq_false h)
    | wr c z => exact fun s => ⟨Tree.get_upd_ne _ _ _ _ (beq_false h), by simp [eff1]; exact Tree.upd_comm _ _ _ _ _ (beq_false h)⟩
    | new c z => simp [clash1] at h
theorem ind_id (b : Acc) : Ind (fun s => s) b := by cases b <;> simp [Ind]
theorem ind_comp {p q : St → St} {b : Acc} (hp : Ind p b) (hq : Ind q b) : Ind (fun s => p (q s)) b := by
  cases b with
  | rd c => exact fun s => (hp (q s)).trans (hq s)
  | wr c x => exact fun s => ⟨(hp (q s)).1.trans (hq s).1, by show p (q _) = _; rw [(hq s).2]; exact (hp (q s)).2⟩
  | new c x => exact fun s => ⟨(hp (q s)).1.trans (hq s).1, fun hc => by
      show p (q _) = _
      rw [(hq s).2 hc]; exact (hp (q s)).2 ((hq s).1.trans hc)⟩
def Apart (l m : Log) : Prop := l.All fun a => m.All fun b => clash1 a b = false
theorem hits_all {a : Acc} : ∀ {l : Log}, l.hits a = false → l.All fun b => clash1 a b = false
  | .nil, _ => trivial
  | .one b l, h => by simp [Log.hits] at h; exact ⟨h.1, hits_all h.2⟩
  | .app x y, h => by simp [Log.hits] at h; exact ⟨hits_all h.1, hits_all h.2⟩
theorem clash_apart : ∀ {l m : Log}, l.clash m = false → Apart l m
  | .nil, _, _ => trivial
  | .one a l, m, h => by simp [Log.clash] at h; exact ⟨hits_all h.1, clash_apart h.2⟩
  | .app x y, m, h => by simp [Log.clash] at h; exact ⟨clash_apart h.1, clash_apart h.2⟩
theorem none_apart : ∀ {l : Log}, l.none? = true → ∀ m, Apart l m ∧ Apart m l
  | .nil, _, m => ⟨trivial, by
      show m.All _
      have : ∀ m : Log, m.All fun _ => True := fun m => by induction m with | nil => trivial | one a l ih => exact ⟨trivial, ih⟩ | app x y i j => exact ⟨i, j⟩
      exact (this m).imp fun _ _ => trivial⟩
  | .one _ _, h, _ => by simp [Log.none?] at h
  | .app x y, h, m => by
      simp [Log.none?] at h
      refine ⟨⟨(none_apart h.1 m).1, (none_apart h.2 m).1⟩, ?_⟩
      have a := (none_apart h.1 m).2
      have b := (none_apart h.2 m).2
      have both : ∀ {m : Log} {p q : Acc → Prop}, m.All p → m.All q → m.All fun a => p a ∧ q a := by
        intro m p q h1 h2
        induction m with
        | nil => trivial
        | one a l ih => exact ⟨⟨h1.1, h2.1⟩, ih h1.2 h2.2⟩
        | app x y i j => exact ⟨i h1.1 h2.1, j h1.2 h2.2⟩
      exact (both a b).imp fun _ h => h
theorem apart_ind : ∀ {l m : Log}, Apart l m → m.All (Ind l.eff)
  | .nil, m, _ => by
      have : ∀ m : Log, m.All (Ind fun s => s) := fun m => by induction m with | nil => trivial | one a l ih => exact ⟨ind_id a, ih⟩ | app x y i j => exact ⟨i, j⟩
      exact this m
  | .one a l, m, h => by
      have both : ∀ {m : Log} {p q r : Acc → Prop}, (∀ a, p a → q a → r a) → m.All p → m.All q → m.All r := by
        intro m p q r f h1 h2
        induction m with
        | nil => trivial
        | one a l ih => exact ⟨f _ h1.1 h2.1, ih h1.2 h2.2⟩
        | app x y i j => exact ⟨i h1.1 h2.1, j h1.2 h2.2⟩
      exact both (fun b h1 h2 => ind_comp (p := eff1 a) (ind_eff1 h1) h2) h.1 (apart_ind h.2)
  | .app x y, m, h => by
      have both : ∀ {m : Log} {p q r : Acc → Prop}, (∀ a, p a → q a → r a) → m.All p → m.All q → m.All r := by
        intro m p q r f h1 h2
        induction m with
        | nil => trivial
        | one a l ih => exact ⟨f _ h1.1 h2.1, ih h1.2 h2.2⟩
        | app x y i j => exact ⟨i h1.1 h2.1, j h1.2 h2.2⟩
      exact both (fun b h1 h2 => ind_comp (p := x.eff) h1 h2) (apart_ind h.1) (apart_ind h.2)
theorem apart_comm {l m : Log} (h : Apart l m) : Apart m l := by
  have : ∀ {l m : Log} {r : Acc → Acc → Prop}, (l.All fun a => m.All fun b => r a b) → m.All fun b => l.All fun a => r a b := by
    intro l m r
    induction l with
    | nil =>
      intro _
      have : ∀ m : Log, m.All fun _ => True := fun m => by induction m with | nil => trivial | one a l ih => exact ⟨trivial, ih⟩ | app x y i j => exact ⟨i, j⟩
      exact this m
    | one a l ih =>
      intro h
      have both : ∀ {m : Log} {p q r : Acc → Prop}, (∀ a, p a → q a → r a) → m.All p → m.All q → m.All r := by
        intro m p q r f h1 h2
        induction m with
        | nil => trivial
        | one a l ih => exact ⟨f _ h1.1 h2.1, ih h1.2 h2.2⟩
        | app x y i j => exact ⟨i h1.1 h2.1, j h1.2 h2.2⟩
      exact both (fun b h1 h2 => ⟨h1, h2⟩) h.1 (ih h.2)
    | app x y i j =>
      intro h
      have both : ∀ {m : Log} {p q r : Acc → Prop}, (∀ a, p a → q a → r a) → m.All p → m.All q → m.All r := by
        intro m p q r f h1 h2
        induction m with
        | nil => trivial
        | one a l ih => exact ⟨f _ h1.1 h2.1, ih h1.2 h2.2⟩
        | app x y i j => exact ⟨i h1.1 h2.1, j h1.2 h2.2⟩
      exact both (fun b h1 h2 => ⟨h1, h2⟩) (i h.1) (j h.2)
  exact (this h).imp fun b hb => hb.imp fun a ha => by rw [clash1_comm]; exact ha

/-- **Two runs that do not clash change places.** -/
theorem run_swap {mi mj : HM} {s s1 s2 : St} {vi vj : Value} {Li Lj : Log} (hi : mi.run s .nil = some (vi, s1, Li)) (hj : mj.run s1 .nil = some (vj, s2, Lj)) (h : Apart Li Lj) :
    ∃ t, mj.run s .nil = some (vj, t, Lj) ∧ mi.run t .nil = some (vi, s2, Li) := by
  have e1 : s1 = Li.eff s := run_eff mi hi rfl
  subst e1
  obtain ⟨t, h1, h2⟩ := run_bwd Li.eff mj hj (apart_ind h)
  subst h2
  refine ⟨t, h1, ?_⟩
  have e2 : t = Lj.eff s := run_eff mj h1 rfl
  have h3 := run_fwd Lj.eff mi hi (apart_ind (apart_comm h))
  rw [← e2] at h3
  have e3 : Li.eff t = Lj.eff (Li.eff s) := run_eff mj hj rfl
  rw [e3]
  exact h3
end Go.Ab
