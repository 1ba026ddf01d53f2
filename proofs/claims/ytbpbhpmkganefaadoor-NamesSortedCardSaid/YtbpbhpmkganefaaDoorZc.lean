/- Contracts of the stream: odd10, Order; slices written out. -/
import Derived.Test.YtbpbhpmkganefaaDoorZb
import Derived.Test.YtbpbhpmkganefaaDoorZd
namespace Go.Proofs.YtbpbhpmkganefaaDoor
open Go.RowKit

theorem Sl.lit_ints {F : Nat → Prop} {w' : World} {t : TypeId} {fz : Nat × Nat} {b : Nat} {c : Array Value} (zs : List Int) (hb : w'.heap[b]? = some (.cells c t fz)) (hc : c = (zs.map (Value.int .i64)).toArray) (hF : F b) :
    Sl RInt 1 F w' (some ⟨b, 0, none⟩) zs.length zs := by
  refine Sl.of_ints rfl hF fun i hi => ?_
  simp [World.cell?, hb, hc, List.getElem?_eq_getElem hi]
theorem Sl.lit_strs {F : Nat → Prop} {w' : World} {t : TypeId} {fz : Nat × Nat} {b : Nat} {c : Array Value} (ss : List ByteArray) (hb : w'.heap[b]? = some (.cells c t fz)) (hc : c = (ss.map Value.string).toArray) (hF : F b) (hz : ss.all (fun s => decide (s.size ≤ 1000000)) = true := by decide) :
    Sl RStr 1 F w' (some ⟨b, 0, none⟩) ss.length ss := by
  refine Sl.of_strs rfl hF (fun i hi => ?_) (fun s hs => of_decide_eq_true (List.all_eq_true.1 hz s hs))
  simp [World.cell?, hb, hc, List.getElem?_eq_getElem hi]

end Go.Proofs.YtbpbhpmkganefaaDoor
