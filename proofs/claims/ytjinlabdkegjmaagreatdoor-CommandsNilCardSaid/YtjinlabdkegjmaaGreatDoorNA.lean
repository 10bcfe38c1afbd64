/-
  Layer 10: commands of no keyspace: small contracts.
-/
import Derived.Test.YtjinlabdkegjmaaGreatDoorCode
import Derived.Test.YtjinlabdkegjmaaGreatDoorSxX
namespace Go.Proofs.YtjinlabdkegjmaaGreatDoor
open Go Go.Sx Go.Proofs.YtjinlabdkegjmaaGreatDoor.C

def encS (s : ByteArray) : List Value := [.string s]
theorem encS_len (p : ByteArray) : (encS p).length = 1 := rfl
def big (s : ByteArray) : Bool := decide (1048576 < (s.size : Int))
def isLong (l : List ByteArray) : Bool := decide (65536 < (l.length : Int)) || l.any big

theorem long1_calls {h : Heap} {s : ByteArray} : CallsH Tryz.prog 77 [.string s] h (Ret fun r h' => r = .bool (big s) ∧ h' = h) := by
  refine f77_calls (by simp) ?_
  refine And.intro rfl (And.intro (fun hb => ?_) (fun hb => ?_))
  · exact And.intro (by unfold big; rw [decide_eq_true hb]; rfl) rfl
  · exact And.intro (by unfold big; rw [decide_eq_false hb]; rfl) rfl

theorem idx_calls {h : Heap} {v : Value} {l : List ByteArray} (hv : SL encS h v l) (hl : l.length < 4611686018427387904) :
    CallsH Tryz.prog 131 [v, .func (.func 77) #[] #[]] h (Ret fun r h' => (∃ i : Int, r = .int .i64 i ∧ (0 ≤ i ↔ l.any big = true)) ∧ h' = h) := by
  obtain ⟨x, c, rfl, hlc⟩ := hv.form
  refine f131_calls (by simp) ?_
  refine loop_intro (fun q : Nat => [(0, .slice x l.length c), (1, .func (.func 77) #[] #[]), (7, .int .i64 l.length), (8, .int .i64 q)]) (fun q h' => q ≤ l.length ∧ h' = h ∧ (l.take q).any big = false) (fun q => l.length - q) 0 ⟨rfl, rfl, rfl, rfl, trivial⟩ ⟨Nat.zero_le _, rfl, rfl⟩ ?_
  rintro q _ ⟨hq, rfl, ha⟩
  refine And.intro rfl (And.intro (fun hlt => ?_) (fun hge => ?_))
  · have hlt : q < l.length := by omega
    obtain ⟨b, o, rfl⟩ := hv.addr (by omega)
    have hcs := hv.cells encS_len (i := q) (x := l[q]) (by simp [hlt])
    refine And.intro (by omega) (And.intro (by omega) (Exists.intro _ (And.intro (hcs 0 _ rfl) ?_)))
    refine call_ret long1_calls ?_
    rintro r _ ⟨hr, rfl⟩
    cases hb : big l[q] with
    | true =>
      rw [hb] at hr; subst hr
      refine And.intro (Exists.intro (q : Int) (And.intro rfl ⟨fun _ => ?_, fun _ => by omega⟩)) rfl
      exact List.any_eq_true.2 ⟨l[q], List.getElem_mem hlt, hb⟩
    | false =>
      rw [hb] at hr; subst hr
      refine And.intro rfl (fun z hz => ?_)
      have hz := add_in hz (by omega) (by omega)
      subst hz
      refine And.intro rfl (Exists.intro (q + 1) (And.intro ⟨rfl, rfl, rfl, rfl, trivial⟩ (And.intro ⟨by omega, rfl, ?_⟩ (by omega))))
      rw [List.take_succ_eq_append_getElem hlt, List.any_append, ha]
      simp [hb]
  · have hkl : q = l.length := by omega
    subst hkl
    rw [List.take_length] at ha
    exact And.intro (Exists.intro (-1) (And.intro rfl ⟨fun h => by omega, fun h => by rw [ha] at h; cases h⟩)) rfl

theorem con_calls {h : Heap} {v : Value} {l : List ByteArray} (hv : SL encS h v l) (hl : l.length < 4611686018427387904) :
    CallsH Tryz.prog 76 [v, .func (.func 77) #[] #[]] h (Ret fun r h' => r = .bool (l.any big) ∧ h' = h) := by
  refine f76_calls (by simp) ?_
  refine call_ret (idx_calls hv hl) ?_
  rintro _ _ ⟨⟨i, rfl, hi⟩, rfl⟩
  refine And.intro rfl (And.intro (fun h0 => ?_) (fun h0 => ?_))
  · exact And.intro (by rw [hi.1 h0]; rfl) rfl
  · refine And.intro ?_ rfl
    cases ha : l.any big with
    | true => exact absurd (hi.2 ha) h0
    | false => rfl

theorem long_calls {h : Heap} {v : Value} {l : List ByteArray} (hv : SL encS h v l) (hl : l.length < 4611686018427387904) :
    CallsH Tryz.prog 31 [v] h (Ret fun r h' => r = .bool (isLong l) ∧ h' = h) := by
  obtain ⟨x, c, rfl, hlc⟩ := hv.form
  refine f31_calls (by simp) ?_
  refine And.intro rfl (And.intro (fun h0 => ?_) (fun h0 => ?_))
  · exact And.intro (by unfold isLong; rw [decide_eq_true h0]; rfl) rfl
  · refine call_ret (con_calls hv hl) ?_
    rintro _ _ ⟨rfl, rfl⟩
    exact And.intro (by unfold isLong; rw [decide_eq_false h0, Bool.false_or]; rfl) rfl

/-- No keyspace: nil, or one that has no things. -/
def NilK (h : Heap) (k : Value) : Prop := k = .pointer none ∨ ∃ b o, k = .pointer (some ⟨b, o, none⟩) ∧ cell h b o = some (.pointer none)

theorem none_calls {h : Heap} {k : Value} (hk : NilK h k) : CallsH Tryz.prog 69 [k] h (Ret fun r h' => r = .bool true ∧ h' = h) := by
  refine f69_calls (by simp) ?_
  rcases hk with rfl | ⟨b, o, rfl, hc⟩
  · exact And.intro rfl rfl
  · exact Exists.intro _ (And.intro hc (And.intro rfl rfl))

theorem ksame_calls {h : Heap} {k : Value} (hk : NilK h k) : CallsH Tryz.prog 24 [k, .pointer none] h (Ret fun r h' => r = .bool true ∧ h' = h) := by
  refine f24_calls (by simp) ?_
  refine call_ret (none_calls hk) ?_
  rintro _ _ ⟨rfl, rfl⟩
  refine call_ret (none_calls hk) ?_
  rintro _ _ ⟨rfl, rfl⟩
  refine call_ret (none_calls (.inl rfl)) ?_
  rintro _ _ ⟨rfl, rfl⟩
  exact And.intro rfl rfl

theorem ones4 : ∀ u ∈ [Value.int .i64 0, .int .i64 0, .string ⟨#[]⟩, .slice none 0 0], u.oneCell' = true := by
  intro u hu
  simp at hu
  rcases hu with rfl | rfl | rfl | rfl <;> rfl

def nothing : Value := .tuple ⟨[.agg ⟨[.int .i64 0, .int .i64 0, .string ⟨#[]⟩, .slice none 0 0]⟩, .slice none 0 0, .bool false]⟩

theorem bdo_calls {h : Heap} {k now v : Value} {l : List ByteArray} (hk : NilK h k) (hv : SL encS h v l) : CallsH Tryz.prog 37 [k, now, v] h (Ret fun r h' => r = nothing ∧ Chg [] h h') := by
  obtain ⟨x, c, rfl, hlc⟩ := hv.form
  refine f37_calls (by simp) ?_
  intro b1 h1 g1 b2 h2 g2
  have B1 := g1.blk.chg g2.chg (by simp)
  have B2 := g2.blk
  have ch : Chg [] h h2 := g1.chg.nil g2.chg
  have hne : b2 ≠ b1 := by
    have := g1.id; have := g2.id; have := g1.size; omega
  have fin : ∀ {h3 h4 : Heap}, Put h2 h3 b1 [.int .i64 0, .int .i64 0, .string ⟨#[]⟩, .slice none 0 0] → Put h3 h4 b2 [.slice none 0 0] → Chg [] h h4 ∧ Blk h4 b1 [.int .i64 0, .int .i64 0, .string ⟨#[]⟩, .slice none 0 0] := by
    intro h3 h4 p1 p2
    refine ⟨ch.fresh (p1.chg.trans p2.chg (U := [b1, b2]) (by simp) (by simp)) ?_, p1.blk.chg p2.chg (by simp; exact fun e => hne e.symm)⟩
    intro q hq
    have := g1.id; have := g2.id; have := g1.size
    simp at hq
    rcases hq with rfl | rfl <;> omega
  refine And.intro rfl (And.intro (fun h0 => ?_) (fun h0 => ?_))
  · refine Exists.intro _ (And.intro B1 (And.intro (Nat.le_refl _) (And.intro rfl (And.intro ones4 fun h3 p1 => ?_))))
    refine Exists.intro _ (And.intro (B2.chg p1.chg (by simp; exact hne)) (And.intro (Nat.le_refl _) (And.intro rfl (And.intro (Go.Sx.ones1 rfl) fun h4 p2 => ?_))))
    obtain ⟨f1, f2⟩ := fin p1 p2
    exact Exists.intro _ (And.intro rfl (And.intro (cells_blk f2) (Exists.intro _ (And.intro (cell_blk p2.blk rfl) (And.intro rfl f1)))))
  · refine call_ret (ksame_calls ?_) ?_
    · rcases hk with rfl | ⟨b, o, rfl, hc⟩
      · exact .inl rfl
      · exact .inr ⟨b, o, rfl, cell_chg hc ch (by simp)⟩
    rintro _ _ ⟨rfl, rfl⟩
    refine Exists.intro _ (And.intro B1 (And.intro (Nat.le_refl _) (And.intro rfl (And.intro ones4 fun h3 p1 => ?_))))
    refine Exists.intro _ (And.intro (B2.chg p1.chg (by simp; exact hne)) (And.intro (Nat.le_refl _) (And.intro rfl (And.intro (Go.Sx.ones1 rfl) fun h4 p2 => ?_))))
    obtain ⟨f1, f2⟩ := fin p1 p2
    exact Exists.intro _ (And.intro rfl (And.intro (cells_blk f2) (Exists.intro _ (And.intro (cell_blk p2.blk rfl) (And.intro rfl f1)))))

theorem ldo_calls {h : Heap} {k now v : Value} {l : List ByteArray} (hk : NilK h k) (hv : SL encS h v l) : CallsH Tryz.prog 10 [k, now, v] h (Ret fun r h' => r = nothing ∧ Chg [] h h') := by
  obtain ⟨x, c, rfl, hlc⟩ := hv.form
  refine f10_calls (by simp) ?_
  intro b1 h1 g1 b2 h2 g2
  have B1 := g1.blk.chg g2.chg (by simp)
  have B2 := g2.blk
  have ch : Chg [] h h2 := g1.chg.nil g2.chg
  have hne : b2 ≠ b1 := by
    have := g1.id; have := g2.id; have := g1.size; omega
  have fin : ∀ {h3 h4 : Heap}, Put h2 h3 b1 [.int .i64 0, .int .i64 0, .string ⟨#[]⟩, .slice none 0 0] → Put h3 h4 b2 [.slice none 0 0] → Chg [] h h4 ∧ Blk h4 b1 [.int .i64 0, .int .i64 0, .string ⟨#[]⟩, .slice none 0 0] := by
    intro h3 h4 p1 p2
    refine ⟨ch.fresh (p1.chg.trans p2.chg (U := [b1, b2]) (by simp) (by simp)) ?_, p1.blk.chg p2.chg (by simp; exact fun e => hne e.symm)⟩
    intro q hq
    have := g1.id; have := g2.id; have := g1.size
    simp at hq
    rcases hq with rfl | rfl <;> omega
  refine And.intro rfl (And.intro (fun h0 => ?_) (fun h0 => ?_))
  · refine Exists.intro _ (And.intro B1 (And.intro (Nat.le_refl _) (And.intro rfl (And.intro ones4 fun h3 p1 => ?_))))
    refine Exists.intro _ (And.intro (B2.chg p1.chg (by simp; exact hne)) (And.intro (Nat.le_refl _) (And.intro rfl (And.intro (Go.Sx.ones1 rfl) fun h4 p2 => ?_))))
    obtain ⟨f1, f2⟩ := fin p1 p2
    exact Exists.intro _ (And.intro rfl (And.intro (cells_blk f2) (Exists.intro _ (And.intro (cell_blk p2.blk rfl) (And.intro rfl f1)))))
  · refine call_ret (ksame_calls ?_) ?_
    · rcases hk with rfl | ⟨b, o, rfl, hc⟩
      · exact .inl rfl
      · exact .inr ⟨b, o, rfl, cell_chg hc ch (by simp)⟩
    rintro _ _ ⟨rfl, rfl⟩
    refine Exists.intro _ (And.intro B1 (And.intro (Nat.le_refl _) (And.intro rfl (And.intro ones4 fun h3 p1 => ?_))))
    refine Exists.intro _ (And.intro (B2.chg p1.chg (by simp; exact hne)) (And.intro (Nat.le_refl _) (And.intro rfl (And.intro (Go.Sx.ones1 rfl) fun h4 p2 => ?_))))
    obtain ⟨f1, f2⟩ := fin p1 p2
    exact Exists.intro _ (And.intro rfl (And.intro (cells_blk f2) (Exists.intro _ (And.intro (cell_blk p2.blk rfl) (And.intro rfl f1)))))

/-- More than is done here? A truth value. -/
theorem vast_calls {h : Heap} {v : Value} {l : List ByteArray} (hv : SL encS h v l) (hl : l.length < 4611686018427387904) :
    CallsH Tryz.prog 12 [.slice none 0 0, v] h (Ret fun r h' => (∃ t, r = .bool t) ∧ h' = h) := by
  obtain ⟨x, c, rfl, hlc⟩ := hv.form
  refine f12_calls (by simp) ?_
  refine And.intro rfl (And.intro (fun h0 => absurd h0 (by decide)) (fun _ => ?_))
  refine And.intro rfl (And.intro (fun _ => And.intro (Exists.intro true rfl) rfl) (fun _ => ?_))
  refine loop_intro (fun q : Nat => [(0, .slice none 0 0), (1, .slice x l.length c), (5, .int .i64 0)]) (fun q h' => h' = h) (fun q => q) 0 ⟨rfl, rfl, rfl, trivial⟩ rfl ?_
  rintro q h1 rfl
  refine And.intro rfl (And.intro (fun h0 => absurd h0 (by decide)) (fun _ => ?_))
  refine loop_intro (fun q : Nat => [(1, .slice x l.length c), (6, .int .i64 q)]) (fun q h' => q ≤ l.length ∧ h' = h1) (fun q => l.length - q) 0 ⟨rfl, rfl, trivial⟩ ⟨Nat.zero_le _, rfl⟩ ?_
  rintro q _ ⟨hq, rfl⟩
  refine And.intro rfl (And.intro (fun hlt => ?_) (fun hge => And.intro (Exists.intro false rfl) rfl))
  have hlt : q < l.length := by omega
  obtain ⟨b, o, rfl⟩ := hv.addr (by omega)
  have hcs := hv.cells encS_len (i := q) (x := l[q]) (by simp [hlt])
  refine And.intro (by omega) (And.intro (by omega) (Exists.intro _ (And.intro (hcs 0 _ rfl) ?_)))
  refine And.intro rfl (And.intro (fun _ => And.intro (Exists.intro true rfl) rfl) (fun _ => ?_))
  refine And.intro rfl (fun z hz => ?_)
  have hz := add_in hz (by omega) (by omega)
  subst hz
  exact And.intro rfl (Exists.intro (q + 1) (And.intro ⟨rfl, rfl, trivial⟩ (And.intro ⟨by omega, rfl⟩ (by omega))))

end Go.Proofs.YtjinlabdkegjmaaGreatDoor
