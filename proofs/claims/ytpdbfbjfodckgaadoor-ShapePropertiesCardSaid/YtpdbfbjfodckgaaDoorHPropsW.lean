/- The walk of the law ShapeProperties. -/
import Derived.Test.YtpdbfbjfodckgaaDoorHLaw
import Derived.Test.YtpdbfbjfodckgaaDoorHRefP
namespace Go.Proofs.YtpdbfbjfodckgaaDoor
open Go.RowKit

set_option maxRecDepth 100000 in
set_option maxHeartbeats 4000000 in
theorem shapeProperties_walk (n : Int) (L : List NodeT) (v : Value) (w : World) (hT : TabAt w) (hP : PatAt w) (hN : NodesIn w v L) (hl : L.length ≤ 9223372036854775807) :
    Calls Tryd.prog 4 #[.agg #[.int .i64 n, v]] w (LawPost w) := by
  have hB1 : Below w.heap.size w (w.alloc (.cells #[.int .i64 n, v] 24)) := (Below.refl _ w).alloc (Nat.le_refl _) _
  have HX := hid (NetVar.new w n v 24)
  have HN := hid (hN.below hB1)
  have HLI := hid (light_c 100 n L v _ (hN.below hB1) hl)
  have HT := hid (hT.below hT.lt hB1)
  have HP := hid (hP.below hP.lt hB1)
  have HB1 := hid hB1
  obtain ⟨x0, x1⟩ := HX.out
  clear hT hP hN hB1
  go_enter Tryd.func4, Tryd.ntmps4
  go_wp2_with fail
  refine HLI.out.mono ?_
  rintro e w2 ⟨rfl, hb2⟩
  clear x0 x1
  obtain ⟨x0, x1⟩ := HX.out.below hb2
  have HX2 := hid (HX.out.below hb2)
  have HN2 := hid (HN.out.below hb2)
  have HT2 := hid (HT.out.below HT.out.lt hb2)
  have HP2 := hid (HP.out.below HP.out.lt hb2)
  have HB2 := hid (HB1.out.trans (hb2.mono HB1.out.size))
  clear hb2 HX HN HLI HT HP HB1
  cases hL : lightB 100 L
  · go_wp2_with fail
    refine (works_c w2 HT2.out HP2.out).mono ?_
    rintro e w3 ⟨rfl, hb3⟩
    go_wp2_with fail
    go_ret
    exact ⟨rfl, HB2.out.trans (hb3.mono HB2.out.size)⟩
  · obtain ⟨hlen, hins⟩ := light_len hL
    have hNA := HN2.out.nodes fun x hx => by have := hins x hx; omega
    have hle : ∀ x ∈ L, x.ins.length ≤ 65536 := fun x hx => by have := hins x hx; omega
    have lx : w.heap.size < w2.heap.size := cell_lt x0
    have q1 := fun x => Decomposable_c n L v (ext w2 x) (hNA.below (ext_below w2 x))
    have q2 := fun x => decom21_c n L v (ext w2 x) (hNA.below (ext_below w2 x))
    have q3 := fun x => Decision_c n L v (ext w2 x) (hNA.below (ext_below w2 x)) (fun k h => hle _ (List.getElem_mem h))
    have q4 := fun x => decision21_c n L v (ext w2 x) (hNA.below (ext_below w2 x)) hle
    have q5 := fun x => Smooth_c n L v (ext w2 x) (hNA.below (ext_below w2 x))
    have q6 := fun x => smooth21_c n L v (ext w2 x) (hNA.below (ext_below w2 x))
    have q7 := fun x => works_c (ext w2 x) (HT2.out.below HT2.out.lt (ext_below w2 x)) (HP2.out.below HP2.out.lt (ext_below w2 x))
    clear hlen hins hNA hle hL
    generalize (validNet ⟨n, L⟩ && decomB L) = b1 at *
    generalize (validNet ⟨n, L⟩ && decideB L) = b2 at *
    generalize (validNet ⟨n, L⟩ && smoothB L) = b3 at *
    have e1 : (b1 == b1) = true := by simp
    have e2 : (b2 == b2) = true := by simp
    have e3 : (b3 == b3) = true := by simp
    go_wp2_with fail
    refine wp_region_pure (by kernel_rfl) (by kernel_rfl) ?_
    repeat (go_big_quiet_step (first | (go_at_call 18; exact Calls.ext_of (q1 _)) | (go_at_call 19; exact Calls.ext_of (q2 _)) | (go_at_call 20; exact Calls.ext_of (q3 _)) | (go_at_call 21; exact Calls.ext_of (q4 _)) | (go_at_call 17; exact Calls.ext_of (q5 _)) | (go_at_call 22; exact Calls.ext_of (q6 _)) | (go_at_call 13; exact Calls.ext_of (q7 _))))
    refine wpQuiet_nil ?_
    intro w3 hb3
    go_wp2_with fail
    go_ret
    exact ⟨rfl, HB2.out.trans (hb3.mono HB2.out.size)⟩
end Go.Proofs.YtpdbfbjfodckgaaDoor
