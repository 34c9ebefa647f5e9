/- Part 5 of what the proof of StoreMay rests on. No condition. -/
import Derived.Test.YtelaljoebdpicaaGreatPOrderCounts01
import Derived.Test.YtelaljoebdpicaaGreatPOrderCounts02
import Derived.Test.YtelaljoebdpicaaGreatPOrderCounts03
import Derived.Test.YtelaljoebdpicaaGreatPOrderCounts04
import Derived.Test.YtelaljoebdpicaaGreatPOrderCounts05
import Derived.Test.YtelaljoebdpicaaGreatPOrderCounts06
import Derived.Test.YtelaljoebdpicaaGreatPOrderCounts07
import Derived.Test.YtelaljoebdpicaaGreatPOrderCounts08
import Derived.Test.YtelaljoebdpicaaGreatPOrderCounts09
import Derived.Test.YtelaljoebdpicaaGreatPOrderCounts10
import Derived.Test.YtelaljoebdpicaaGreatPOrderCounts11
import Derived.Test.YtelaljoebdpicaaGreatPOrderCounts12
import Derived.Test.YtelaljoebdpicaaGreatPOrderCounts13
import Derived.Test.YtelaljoebdpicaaGreatPOrderCounts14
import Derived.Test.YtelaljoebdpicaaGreatPOrderCounts15
import Derived.Test.YtelaljoebdpicaaGreatPOrderCounts16
import Derived.Test.YtelaljoebdpicaaGreatPOrderCounts17
import Derived.Test.YtelaljoebdpicaaGreatPOrderCounts18
import Derived.Test.YtelaljoebdpicaaGreatPOrderCounts19
import Derived.Test.YtelaljoebdpicaaGreatPOrderCounts20
import Derived.Test.YtelaljoebdpicaaGreatPOrderCounts21
import Derived.Test.YtelaljoebdpicaaGreatPOrderCounts22
import Derived.Test.YtelaljoebdpicaaGreatPOrderCounts23
import Derived.Test.YtelaljoebdpicaaGreatPOrderCounts24
import Derived.Test.YtelaljoebdpicaaGreatPOrderCounts25
import Derived.Test.YtelaljoebdpicaaGreatPOrderCounts26
import Derived.Test.YtelaljoebdpicaaGreatPOrderCounts27
import Derived.Test.YtelaljoebdpicaaGreatPOrderCounts28
import Derived.Test.YtelaljoebdpicaaGreatPOrderCounts29
import Derived.Test.YtelaljoebdpicaaGreatPOrderCounts30
import Derived.Test.YtelaljoebdpicaaGreatPOrderCounts31
import Derived.Test.YtelaljoebdpicaaGreatPOrderCounts32
import Derived.Test.YtelaljoebdpicaaGreatPOrderCounts33
import Derived.Test.YtelaljoebdpicaaGreatPOrderCounts34
import Derived.Test.YtelaljoebdpicaaGreatPOrderCounts35
import Derived.Test.YtelaljoebdpicaaGreatPOrderCounts36
import Derived.Test.YtelaljoebdpicaaGreatPOrderCounts37
import Derived.Test.YtelaljoebdpicaaGreatPOrderCounts38
import Derived.Test.YtelaljoebdpicaaGreatPOrderCounts39
import Derived.Test.YtelaljoebdpicaaGreatPOrderCounts40
import Derived.Test.YtelaljoebdpicaaGreatPOrderCounts41
import Derived.Test.YtelaljoebdpicaaGreatPOrderCounts42
import Derived.Test.YtelaljoebdpicaaGreatPOrderCounts43
import Derived.Test.YtelaljoebdpicaaGreatPOrderCounts44
import Derived.Test.YtelaljoebdpicaaGreatPOrderCounts45
import Derived.Test.YtelaljoebdpicaaGreatPOrderCounts46
import Derived.Test.YtelaljoebdpicaaGreatPStoreMay01
namespace Go.Proofs.YtelaljoebdpicaaGreat
set_option maxRecDepth 100000
set_option maxHeartbeats 60000000
set_option linter.unusedVariables false
set_option linter.unusedSimpArgs false
set_option linter.unusedSectionVars false
section
open Go.RowKit Go.Maps
def newV (b : Int) : Value := if brokerB b = true then stEmpty b 1 1 else stEmpty 0 0 0
theorem newv_is (W : World) (b : Int) : IsSt W (newV b) (newM b) := by
 have HN : newM b = if brokerB b = true then ⟨b, 1, 1, 0, [], [], [], [], []⟩ else ⟨0, 0, 0, 0, [], [], [], [], []⟩ := by
  unfold newM brokerB; simp
 unfold newV
 rw [HN]
 split
 ·exact isst_empty _ _ _ _
 ·exact isst_empty _ _ _ _
theorem snew_val (b : Int) (w : World) :
  Calls Tryz.prog 18 #[.int .i64 b] w fun e w' => e = .returned (newV b) /\ Tch No w w' := by
 have HB := Lib.hid (fun W => kbroker_any b W)
 have HN : Hid (newV b = if brokerB b = true then stEmpty b 1 1 else stEmpty 0 0 0) := rfl
 obtain ⟨x, hx⟩ : ∃ x, brokerB b = x := ⟨_, rfl⟩
 rw [hx] at HB HN
 clear hx
 cases x with
 | true =>
  go_enter Tryz.func18, Tryz.ntmps18
  go_wp2_with (go_at_call 42; refine (HB.out _).mono ?_; rintro e w' ⟨rfl, rfl⟩)
  exact bodyPost_ret (v := stEmpty b 1 1) (by unfold stEmpty; simp [results, Tryz.results18, go_sem]) rfl ⟨by rw [HN.out]; rfl, Tch.alloc _ _⟩
 | false =>
  go_enter Tryz.func18, Tryz.ntmps18
  go_wp2_with (go_at_call 42; refine (HB.out _).mono ?_; rintro e w' ⟨rfl, rfl⟩)
  exact bodyPost_ret (v := stEmpty 0 0 0) (by unfold stEmpty; simp [results, Tryz.results18, go_sem]) rfl ⟨by rw [HN.out]; rfl, Tch.alloc _ _⟩
theorem rnew_val (b : Int) (w : World) :
  Calls Tryz.prog 19 #[.int .i64 b] w fun e w' => e = .returned (newV b) /\ Tch No w w' := by
 have HB := Lib.hid (fun W => rbroker_any b W)
 have HN : Hid (newV b = if brokerB b = true then stEmpty b 1 1 else stEmpty 0 0 0) := rfl
 obtain ⟨x, hx⟩ : ∃ x, brokerB b = x := ⟨_, rfl⟩
 rw [hx] at HB HN
 clear hx
 cases x with
 | true =>
  go_enter Tryz.func19, Tryz.ntmps19
  go_wp2_with (go_at_call 53; refine (HB.out _).mono ?_; rintro e w' ⟨rfl, rfl⟩)
  exact bodyPost_ret (v := stEmpty b 1 1) (by unfold stEmpty; simp [results, Tryz.results19, go_sem]) rfl ⟨by rw [HN.out]; rfl, Tch.alloc _ _⟩
 | false =>
  go_enter Tryz.func19, Tryz.ntmps19
  go_wp2_with (go_at_call 53; refine (HB.out _).mono ?_; rintro e w' ⟨rfl, rfl⟩)
  exact bodyPost_ret (v := stEmpty 0 0 0) (by unfold stEmpty; simp [results, Tryz.results19, go_sem]) rfl ⟨by rw [HN.out]; rfl, Tch.alloc _ _⟩
end
end Go.Proofs.YtelaljoebdpicaaGreat
