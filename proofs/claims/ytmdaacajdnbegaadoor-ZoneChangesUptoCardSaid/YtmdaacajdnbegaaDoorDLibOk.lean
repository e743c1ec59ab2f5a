/- What the machine is told of the functions is so. Written by a program of ours. -/
import Derived.Test.YtmdaacajdnbegaaDoorDLib
import Derived.Test.YtmdaacajdnbegaaDoorDPrimOk
import Derived.Test.YtmdaacajdnbegaaDoorShelf
import Derived.Test.YtmdaacajdnbegaaDoorDTab
namespace Go.Proofs.YtmdaacajdnbegaaDoor
open Go Go.Dm
set_option maxRecDepth 100000
theorem fn_ok : Tab Tryd.prog fnTab := by
  delta fnTab
  refine tab_step Tryd.func3 c3 (by kernel_rfl) ?_
  refine tab_step Tryd.func4 c4 (by kernel_rfl) ?_
  refine tab_step Tryd.func5 c5 (by kernel_rfl) ?_
  refine tab_step Tryd.func6 c6 (by kernel_rfl) ?_
  refine tab_step Tryd.func7 c7 (by kernel_rfl) ?_
  refine tab_step Tryd.func8 c8 (by kernel_rfl) ?_
  refine tab_step Tryd.func9 c9 (by kernel_rfl) ?_
  refine tab_step Tryd.func10 c10 (by kernel_rfl) ?_
  refine tab_step Tryd.func11 c11 (by kernel_rfl) ?_
  refine tab_step Tryd.func12 c12 (by kernel_rfl) ?_
  refine tab_step Tryd.func13 c13 (by kernel_rfl) ?_
  refine tab_step Tryd.func14 c14 (by kernel_rfl) ?_
  refine tab_step Tryd.func15 c15 (by kernel_rfl) ?_
  refine tab_step Tryd.func16 c16 (by kernel_rfl) ?_
  refine tab_step Tryd.func17 c17 (by kernel_rfl) ?_
  refine tab_step Tryd.func18 c18 (by kernel_rfl) ?_
  refine tab_step Tryd.func19 c19 (by kernel_rfl) ?_
  refine tab_step Tryd.func20 c20 (by kernel_rfl) ?_
  refine tab_step Tryd.func21 c21 (by kernel_rfl) ?_
  refine tab_step Tryd.func22 c22 (by kernel_rfl) ?_
  refine tab_step Tryd.func23 c23 (by kernel_rfl) ?_
  refine tab_step Tryd.func24 c24 (by kernel_rfl) ?_
  refine tab_step Tryd.func25 c25 (by kernel_rfl) ?_
  refine tab_step Tryd.func26 c26 (by kernel_rfl) ?_
  refine tab_step Tryd.func27 c27 (by kernel_rfl) ?_
  refine tab_step Tryd.func28 c28 (by kernel_rfl) ?_
  refine tab_step Tryd.func29 c29 (by kernel_rfl) ?_
  refine tab_step Tryd.func30 c30 (by kernel_rfl) ?_
  refine tab_step Tryd.func31 c31 (by kernel_rfl) ?_
  refine tab_step Tryd.func32 c32 (by kernel_rfl) ?_
  refine tab_step Tryd.func33 c33 (by kernel_rfl) ?_
  refine tab_step Tryd.func34 c34 (by kernel_rfl) ?_
  refine tab_step Tryd.func35 c35 (by kernel_rfl) ?_
  refine tab_step Tryd.func37 c37 (by kernel_rfl) ?_
  refine tab_step Tryd.func38 c38 (by kernel_rfl) ?_
  refine tab_step Tryd.func39 c39 (by kernel_rfl) ?_
  refine tab_step Tryd.func41 c41 (by kernel_rfl) ?_
  refine tab_step Tryd.func43 c43 (by kernel_rfl) ?_
  refine tab_step Tryd.func44 c44 (by kernel_rfl) ?_
  refine tab_step Tryd.func45 c45 (by kernel_rfl) ?_
  refine tab_step Tryd.func47 c47 (by kernel_rfl) ?_
  refine tab_step Tryd.func48 c48 (by kernel_rfl) ?_
  refine tab_step Tryd.func49 c49 (by kernel_rfl) ?_
  refine tab_step Tryd.func50 c50 (by kernel_rfl) ?_
  refine tab_step Tryd.func51 c51 (by kernel_rfl) ?_
  refine tab_step Tryd.func52 c52 (by kernel_rfl) ?_
  refine tab_step Tryd.func53 c53 (by kernel_rfl) ?_
  refine tab_step Tryd.func54 c54 (by kernel_rfl) ?_
  refine tab_step Tryd.func55 c55 (by kernel_rfl) ?_
  refine tab_step Tryd.func58 c58 (by kernel_rfl) ?_
  refine tab_step Tryd.func59 c59 (by kernel_rfl) ?_
  refine tab_step Tryd.func60 c60 (by kernel_rfl) ?_
  refine tab_step Tryd.func61 c61 (by kernel_rfl) ?_
  refine tab_step Tryd.func63 c63 (by kernel_rfl) ?_
  refine tab_step Tryd.func65 c65 (by kernel_rfl) ?_
  refine tab_step Tryd.func67 c67 (by kernel_rfl) ?_
  refine tab_step Tryd.func68 c68 (by kernel_rfl) ?_
  refine tab_step Tryd.func70 c70 (by kernel_rfl) ?_
  refine tab_step Tryd.func72 c72 (by kernel_rfl) ?_
  refine tab_step Tryd.func73 c73 (by kernel_rfl) ?_
  refine tab_step Tryd.func74 c74 (by kernel_rfl) ?_
  refine tab_step Tryd.func75 c75 (by kernel_rfl) ?_
  refine tab_step Tryd.func76 c76 (by kernel_rfl) ?_
  refine tab_step Tryd.func78 c78 (by kernel_rfl) ?_
  exact tab_end
theorem pr_ok : PTab Tryd.prog prTab := by
  delta prTab
  refine ptab_step (prim_itoa (Enters.of Tryd.func36 (by kernel_rfl) (by kernel_rfl)) Tryd.strconv_Itoa) ?_
  refine ptab_step (prim_cut (Enters.of Tryd.func40 (by kernel_rfl) (by kernel_rfl)) Tryd.strings_Cut_shaped) ?_
  refine ptab_step (prim_split (Enters.of Tryd.func42 (by kernel_rfl) (by kernel_rfl)) (by kernel_rfl) Tryd.strings_Split_shaped) ?_
  refine ptab_step (prim_suffix (Enters.of Tryd.func46 (by kernel_rfl) (by kernel_rfl)) Tryd.strings_HasSuffix) ?_
  exact ptab_end
theorem lib_ok (L : Nat) : LibOK Tryd.prog (G0.at L) := ⟨by kernel_rfl, fn_ok, pr_ok⟩
end Go.Proofs.YtmdaacajdnbegaaDoor
