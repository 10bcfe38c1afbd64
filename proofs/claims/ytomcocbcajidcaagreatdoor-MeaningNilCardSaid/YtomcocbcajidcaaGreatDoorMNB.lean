/-
  Layer 17: the guard on a run's bounds; no keyspace.
-/
import Derived.Test.YtomcocbcajidcaaGreatDoorMNA
namespace Go.Proofs.YtomcocbcajidcaaGreatDoor
open Go Go.Sx Go.Proofs.YtomcocbcajidcaaGreatDoor.C

/-- The bounds of a run: KEYS, ARGV, the time, fuel, cells, depth. -/
def runV (u v : Value) (now fuel room deep : Int) : List Value := [u, v, .int .i64 now, .int .i64 fuel, .int .i64 room, .int .i64 deep]

/-- More than is done here? A truth value. -/
theorem large_calls {h : Heap} {u v : Value} {ks ar : List ByteArray} {now fuel room deep : Int} (hu : SL encS h u ks) (hv : SL encS h v ar) (hk : ks.length < 4611686018427387904) (ha : ar.length < 4611686018427387904) :
    CallsH Tryz.prog 4 [.slice none 0 0, .agg ⟨runV u v now fuel room deep⟩] h (Ret fun r h' => (∃ t, r = .bool t) ∧ Chg [] h h') := by
  obtain ⟨x, c, rfl, hlc⟩ := hu.form
  obtain ⟨x', c', rfl, hlc'⟩ := hv.form
  refine f4_calls (by simp) ?_
  intro b1 h1 g1
  have B1 : Blk h1 b1 (runV (.slice x ks.length c) (.slice x' ar.length c') now fuel room deep) := g1.blk
  have hu1 := hu.ext g1.chg
  have hv1 := hv.ext g1.chg
  have ch := g1.chg
  clear g1
  refine And.intro rfl (And.intro (fun h0 => absurd h0 (by decide)) (fun _ => ?_))
  refine Exists.intro _ (And.intro (cell_blk B1 rfl) (Exists.intro _ (And.intro (cell_blk B1 rfl) ?_)))
  refine And.intro rfl (fun z _ => ?_)
  refine And.intro rfl (And.intro (fun _ => And.intro (Exists.intro true rfl) ch) (fun _ => ?_))
  refine Exists.intro _ (And.intro (cell_blk B1 rfl) ?_)
  refine And.intro rfl (And.intro (fun _ => And.intro (Exists.intro true rfl) ch) (fun _ => ?_))
  refine loop_intro (fun q : Nat => [(0, .slice none 0 0), (3, .pointer (some ⟨b1, 0, none⟩)), (5, .int .i64 0)]) (fun q h' => h1 = h') (fun q => q) 0 ⟨rfl, rfl, rfl, trivial⟩ rfl ?_
  rintro q _ rfl
  refine And.intro rfl (And.intro (fun h0 => absurd h0 (by decide)) (fun _ => ?_))
  refine loop_intro (fun q : Nat => [(3, .pointer (some ⟨b1, 0, none⟩)), (6, .int .i64 q)]) (fun q h' => q ≤ ks.length ∧ h1 = h') (fun q => ks.length - q) 0 ⟨rfl, rfl, trivial⟩ ⟨Nat.zero_le _, rfl⟩ ?_
  rintro q _ ⟨hq, rfl⟩
  refine Exists.intro _ (And.intro (cell_blk B1 rfl) (And.intro rfl (And.intro (fun hlt => ?_) (fun hge => ?_))))
  · have hlt : q < ks.length := by omega
    obtain ⟨b, o, rfl⟩ := hu.addr (by omega)
    have hcs := hu1.cells encS_len (i := q) (x := ks[q]) (by simp [hlt])
    refine Exists.intro _ (And.intro (cell_blk B1 rfl) ?_)
    refine And.intro (by omega) (And.intro (by omega) (Exists.intro _ (And.intro (hcs 0 _ rfl) ?_)))
    refine And.intro rfl (And.intro (fun _ => And.intro (Exists.intro true rfl) ch) (fun _ => ?_))
    refine And.intro rfl (fun z hz => ?_)
    have hz := add_in hz (by omega) (by omega)
    subst hz
    exact And.intro rfl (Exists.intro (q + 1) (And.intro ⟨rfl, rfl, trivial⟩ (And.intro ⟨hlt, rfl⟩ (by omega))))
  refine loop_intro (fun q : Nat => [(3, .pointer (some ⟨b1, 0, none⟩)), (7, .int .i64 q)]) (fun q h' => q ≤ ar.length ∧ h1 = h') (fun q => ar.length - q) 0 ⟨rfl, rfl, trivial⟩ ⟨Nat.zero_le _, rfl⟩ ?_
  rintro q _ ⟨hq, rfl⟩
  refine Exists.intro _ (And.intro (cell_blk B1 rfl) (And.intro rfl (And.intro (fun hlt => ?_) (fun hge => ?_))))
  · have hlt : q < ar.length := by omega
    obtain ⟨b, o, rfl⟩ := hv.addr (by omega)
    have hcs := hv1.cells encS_len (i := q) (x := ar[q]) (by simp [hlt])
    refine Exists.intro _ (And.intro (cell_blk B1 rfl) ?_)
    refine And.intro (by omega) (And.intro (by omega) (Exists.intro _ (And.intro (hcs 0 _ rfl) ?_)))
    refine And.intro rfl (And.intro (fun _ => And.intro (Exists.intro true rfl) ch) (fun _ => ?_))
    refine And.intro rfl (fun z hz => ?_)
    have hz := add_in hz (by omega) (by omega)
    subst hz
    exact And.intro rfl (Exists.intro (q + 1) (And.intro ⟨rfl, rfl, trivial⟩ (And.intro ⟨hlt, rfl⟩ (by omega))))
  refine Exists.intro _ (And.intro (cell_blk B1 rfl) ?_)
  refine And.intro rfl (And.intro (fun _ => And.intro (Exists.intro true rfl) ch) (fun _ => And.intro (Exists.intro false rfl) ch))

/-- No keyspace: nil, or one that has no things. -/
def NilK (h : Heap) (k : Value) : Prop := k = .pointer none ∨ ∃ b o, k = .pointer (some ⟨b, o, none⟩) ∧ cell h b o = some (.pointer none)
theorem NilK.ext {h h' : Heap} {k : Value} (hk : NilK h k) (hc : Chg [] h h') : NilK h' k := by
  rcases hk with rfl | ⟨b, o, rfl, h1⟩
  · exact .inl rfl
  · exact .inr ⟨b, o, rfl, cell_chg h1 hc (by simp)⟩

theorem none_calls {h : Heap} {k : Value} (hk : NilK h k) : CallsH Tryz.prog 23 [k] h (Ret fun r h' => r = .bool true ∧ h' = h) := by
  refine f23_calls (by simp) ?_
  rcases hk with rfl | ⟨b, o, rfl, hc⟩
  · exact And.intro rfl rfl
  · exact Exists.intro _ (And.intro hc (And.intro rfl rfl))

theorem ksame_calls {h : Heap} {k : Value} (hk : NilK h k) : CallsH Tryz.prog 13 [k, .pointer none] h (Ret fun r h' => r = .bool true ∧ h' = h) := by
  refine f13_calls (by simp) ?_
  refine call_ret (none_calls hk) ?_
  rintro _ _ ⟨rfl, rfl⟩
  refine call_ret (none_calls hk) ?_
  rintro _ _ ⟨rfl, rfl⟩
  refine call_ret (none_calls (.inl rfl)) ?_
  rintro _ _ ⟨rfl, rfl⟩
  exact And.intro rfl rfl

/-- What a run did that did nothing. -/
def ran0 : List Value := [.int .i64 0, .int .i64 0, .string ⟨#[]⟩, .slice none 0 0, .slice none 0 0, .int .i64 0, .int .i64 0]
theorem ran_ones : ∀ u ∈ ran0, u.oneCell' = true := by
  intro u hu
  simp [ran0] at hu
  rcases hu with rfl | rfl | rfl | rfl | rfl | rfl | rfl <;> rfl
def nothing : Value := .tuple ⟨[.agg ⟨ran0⟩, .int .i64 1]⟩

theorem run_calls0 {h : Heap} {k : Value} {n w : List Value} (hk : NilK h k) : CallsH Tryz.prog 7 [k, .agg ⟨n⟩, .agg ⟨w⟩] h (Ret fun r h' => r = nothing ∧ Chg [] h h') := by
  refine f7_calls (by simp) ?_
  intro b1 h1 g1 b2 h2 g2 b3 h3 g3
  have B3 : Blk h3 b3 ran0 := g3.blk
  have ch : Chg [] h h3 := (g1.chg.nil g2.chg).nil g3.chg
  refine call_ret (ksame_calls (hk.ext ch)) ?_
  rintro _ _ ⟨rfl, rfl⟩
  refine Exists.intro _ (And.intro B3 (And.intro (Nat.le_refl _) (And.intro rfl (And.intro ran_ones fun h4 p => ?_))))
  refine Exists.intro ran0 (And.intro rfl (And.intro (cells_blk p.blk) ?_))
  refine And.intro rfl (ch.fresh p.chg ?_)
  intro q hq
  have := g1.id; have := g2.id; have := g1.size; have := g2.size; have := g3.id
  simp at hq
  omega

end Go.Proofs.YtomcocbcajidcaaGreatDoor
