/- A step of a drawn region: a literal of ints, into a world of its own. -/
import Derived.Test.YtkioejdddmnbmaaSa
import Derived.Great.BuildSlice
import Derived.Deep.RegionHeld3
namespace Go.Proofs.Ytkioejdddmnbmaa
open Go.RowKit Go.Shelf

theorem step_lit {ops : Array Oper} {o : Oper} {a : Act} {K : Act → World → Prop} {Q : Exit → Act → World → Prop} {E : Prop} (w : World) (l : List Int) (hgd : o.guard = none)
    (hop : o.op = Op.buildSlice 22 l.length ((l.zipIdx 0).map fun x => (x.2, Operand.const (Value.int .i64 x.1))).toArray) (hpos : 0 < l.length) (hsm : l.length ≤ 1000)
    (hK : ∀ b w', IntsAt w' (some ⟨b, 0, none⟩) l → Below w.heap.size w w' → K (a.put o.dst (.slice (some ⟨b, 0, none⟩) l.length l.length)) w') :
    if Region.wanted o (yielded ops a.tmps) = true then Oper.wp Try.prog o a w K Q else E := by
  have hw : Region.wanted o (yielded ops a.tmps) = true := by simp [Region.wanted, hgd]
  rw [if_pos hw]
  obtain ⟨i, hi, hz, hs, hby⟩ := info_parts info3
  refine wp_buildSlice 22 3 l.length _ hop (l.map (Value.int .i64)).toArray i _ Try.underlying22 hi hz (by rw [hs]; omega) (by rw [hs]; omega) ?_ (hK _ _ (intsAt_new w l _ 3 rfl) (bnew w _))
  rw [parts_eval a _ .i64 l (by simp), hs]
  exact Great.fill_flat _ _ (fun v hv => by obtain ⟨n, _, rfl⟩ := List.mem_map.1 hv; rfl) (by simp)
end Go.Proofs.Ytkioejdddmnbmaa
