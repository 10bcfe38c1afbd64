/-
  A tie over a list of package variables is a tie over the same list in another order.
-/
import Derived.LaidSub
namespace Go

theorem DataW.LaidVars.perm {P : Program} {w : World} {l m : List (String × DataW Unit)} (hp : l.Perm m) : ∀ {ps : List MemPlace}, DataW.LaidVars P w l ps → ∃ qs, DataW.LaidVars P w m qs ∧ ps.Perm qs := by
  induction hp with
  | nil => intro ps h; exact ⟨ps, h, List.Perm.refl _⟩
  | cons x _ ih =>
    obtain ⟨n, d⟩ := x
    rintro ps ⟨g, t, cs, fuel, p, q, e1, e2, e3, e4, hr, rfl⟩
    obtain ⟨q', hq, hs⟩ := ih hr
    exact ⟨_, ⟨g, t, cs, fuel, p, q', e1, e2, e3, e4, hq, rfl⟩, hs.append_left _⟩
  | swap x y l =>
    obtain ⟨n, d⟩ := x
    obtain ⟨n', d'⟩ := y
    rintro ps ⟨g, t, cs, fuel, p, q, e1, e2, e3, e4, ⟨g', t', cs', fuel', p', q', f1, f2, f3, f4, hr, rfl⟩, rfl⟩
    refine ⟨_, ⟨g', t', cs', fuel', p', _, f1, f2, f3, f4, ⟨g, t, cs, fuel, p, q', e1, e2, e3, e4, hr, rfl⟩, rfl⟩, ?_⟩
    exact List.perm_append_comm_assoc _ _ _
  | trans _ _ ih1 ih2 =>
    intro ps h
    obtain ⟨qs, h1, p1⟩ := ih1 h
    obtain ⟨rs, h2, p2⟩ := ih2 h1
    exact ⟨rs, h2, p1.trans p2⟩

theorem laidMet.perm {P : Program} {w : World} {l m : List (String × DataW Unit)} (hp : l.Perm m) (h : laidMet P l w) : laidMet P m w := by
  obtain ⟨ps, hl, hnd, hrows⟩ := h
  obtain ⟨qs, hq, hs⟩ := hl.perm hp
  exact ⟨qs, hq, hs.nodup_iff.1 hnd, fun b off hx => hrows b off (hs.mem_iff.2 hx)⟩

theorem laidMetH.perm {P : Program} {w : World} {l m : List (String × DataW Unit)} (hp : l.Perm m) (h : laidMetH P l w) : laidMetH P m w := by
  obtain ⟨h1, h2⟩ := laidMetH_iff.1 h
  exact laidMetH_iff.2 ⟨h1.perm (hp.filter _), fun x hx => h2 x ((hp.filter _).mem_iff.2 hx)⟩

theorem Program.laidByTextLater.perm {P : Program} {L l : List (String × DataW Unit)} {K k : List LaidKind} {tests : Bool} (h : P.laidByTextLater L K tests) (hp : L.Perm l)
    (hk : l.map (fun x => P.kindOfLater x.1) = k.map some) : P.laidByTextLater l k tests := by
  obtain ⟨⟨h1, h2, h3, _⟩, g, code, stored, hg, hc, hs, hall, hr⟩ := h
  refine ⟨⟨h1, h2, h3, hk⟩, g, code, stored, hg, hc, hs, ?_, fun os tape hos => ?_⟩
  · exact List.all_eq_true.2 fun x hx => List.all_eq_true.1 hall x (hp.mem_iff.2 hx)
  · obtain ⟨n, v, w', hn, hm⟩ := hr os tape hos
    exact ⟨n, v, w', hn, hm.perm hp⟩

theorem perm8 {α : Type _} (a b c d e f g h : α) : [a, b, c, d, e, f, g, h].Perm [g, d, h, f, e, c, a, b] :=
  (List.perm_middle (l₁ := [a, b, c, d, e, f]) (l₂ := [h])).trans (.cons _ ((List.perm_middle (l₁ := [a, b, c]) (l₂ := [e, f, h])).trans (.cons _ ((List.perm_middle (l₁ := [a, b, c, e, f]) (l₂ := [])).trans (.cons _
    ((List.perm_middle (l₁ := [a, b, c, e]) (l₂ := [])).trans (.cons _ ((List.perm_middle (l₁ := [a, b, c]) (l₂ := [])).trans (.cons _ (List.perm_middle (l₁ := [a, b]) (l₂ := [])))))))))))

end Go
