/-
  Layer 7: has a keyspace just these things (taborlaw07.same).
-/
import Derived.Test.YtigolfakcblnjaaGreatKU
namespace Go.Proofs.YtigolfakcblnjaaGreat
open Go Go.Sx Go.Proofs.YtigolfakcblnjaaGreat.C

theorem loopB_chg {S : List Nat} {h h' : Heap} {l : Nat} {r : Loop} {st : LoopState} {p : Option Go.Code} (hl : LoopB h l r st p) (hc : Chg S h h') (hn : l ∉ S) : LoopB h' l r st p := ⟨get_chg hl.at_ hc hn⟩

/-- What holds between two rounds. -/
structure Round (h0 : Heap) (l D b1 kb : Nat) (r : Loop) (p : Nat) (h : Heap) : Prop where
  loop : LoopB h l r .ready none
  mark : h[D]? = some (.deferred (some []))
  b1 : Blk h b1 [ptr kb]
  chg : Chg [] h0 h
  lt : l < p
  pn : p < h.size

theorem Round.ext {h0 h h' : Heap} {l D b1 kb : Nat} {r : Loop} {p : Nat} (x : Round h0 l D b1 kb r p h) (hc : Chg [] h h') : Round h0 l D b1 kb r p h' :=
  ⟨loopB_chg x.loop hc (by simp), get_chg x.mark hc (by simp), x.b1.chg hc (by simp), x.chg.nil hc, x.lt, Nat.lt_of_lt_of_le x.pn hc.size⟩

theorem getPr {w : List RX} {k : Nat} (hk : k < (w.map RX.pr).length) (hk' : k < w.length) : (w.map RX.pr)[k] = (w[k].key, w[k].thing) := by
  rw [List.getElem_map]; rfl

end Go.Proofs.YtigolfakcblnjaaGreat
