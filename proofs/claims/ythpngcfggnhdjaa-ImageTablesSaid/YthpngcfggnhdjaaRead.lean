import Derived.Test.YthpngcfggnhdjaaLst
import Derived.Defers
import Derived.Recover
namespace Go.Proofs.Ythpngcfggnhdjaa
open Go.RowKit Go.Proofs.Img

theorem ta_stop (c : Int) (w : World) : (Instr.typeAssert (.iface 79 (.agg #[.int .i64 c])) 20 79 true).run Try.prog w = .ok (.tuple #[.agg #[.int .i64 c], .bool true]) w := by kernel_rfl
theorem ta_nil (w : World) : (Instr.typeAssert .nilIface 20 79 true).run Try.prog w = .ok (.tuple #[.agg #[.int .i64 0], .bool false]) w := by kernel_rfl

set_option maxRecDepth 100000 in
set_option maxHeartbeats 1000000 in
theorem catch_stop (b : Nat) (x c : Int) (older : List PanicEntry) (w : World) (hc : w.cell? ⟨b, 0, none⟩ = some (.int .i64 x)) (hz : w.frozen? ⟨b, 0, none⟩ = false) (hp : b < w.heap.size) :
    CallsD Try.prog 54 #[.pointer (some ⟨b, 0, none⟩)] (.panicking ({ v := .iface 79 (.agg #[.int .i64 c]), recovered := false } :: older)) w fun e u' w' =>
      e = .returned (.tuple #[]) ∧ u' = .panicking ({ v := .iface 79 (.agg #[.int .i64 c]), recovered := true } :: older) ∧ w' = (w.alloc (.cells #[.int .i64 c] 79)).setCell ⟨b, 0, none⟩ (.int .i64 c) := by
  have hta := ta_stop c
  have hne : b ≠ w.heap.size := by omega
  refine callsD_of_wpS Try.func54 rfl fun c₀ cs hu => ?_
  apply wpS_seq
  apply wpS_region
  simp [wpOpsS, go_sem, recoverD, hu, Try.ntmps54, Exit.thenS, hta]
  apply wpS_seq
  apply wpS_region
  simp [wpOpsS, go_sem, Exit.thenS]
  refine wpS_cond (t := true) (by simp [Act.eval, Array.replicate]) ?_
  simp only [if_true]
  apply wpS_region
  have h1 : (w.alloc (.cells #[.int .i64 c] 79)).cell? ⟨b, 0, none⟩ = some (.int .i64 x) := (World.cell?_alloc_past _ _ _ hp).trans hc
  have h2 : (w.alloc (.cells #[.int .i64 c] 79)).frozen? ⟨b, 0, none⟩ = false := by rw [World.frozen?_alloc_past _ _ _ hp]; exact hz
  have h3 : (w.alloc (.cells #[.int .i64 c] 79)).cell? ⟨w.heap.size, 0, none⟩ = some (.int .i64 c) := by rw [World.cell?_alloc_at _ _ _ _ rfl]; rfl
  simp [wpOpsS, go_sem, h1, h2, h3, bodyPostS, results, Try.results54]

set_option maxRecDepth 100000 in
set_option maxHeartbeats 1000000 in
theorem catch_idle (b : Nat) (w : World) :
    CallsD Try.prog 54 #[.pointer (some ⟨b, 0, none⟩)] .returning w fun e u' w' => e = .returned (.tuple #[]) ∧ u' = .returning ∧ w' = w.alloc (.cells #[.int .i64 0] 79) := by
  have hta := ta_nil
  refine callsD_of_wpS Try.func54 rfl fun c₀ cs hu => ?_
  apply wpS_seq
  apply wpS_region
  simp [wpOpsS, go_sem, recoverD, hu, Try.ntmps54, Exit.thenS, hta]
  apply wpS_seq
  apply wpS_region
  simp [wpOpsS, go_sem, Exit.thenS]
  refine wpS_cond (t := false) (by simp [Act.eval, Array.replicate]) ?_
  simp only [Bool.false_eq_true, if_false]
  refine wpS_of_wp (wp_skip ?_)
  cases c₀
  simp_all [bodyPostS, results, Try.results54]


set_option maxRecDepth 100000 in
set_option maxHeartbeats 1000000 in
theorem read_ok (g : FuncId) (caps : Array Value) (w : World) (R : World → Prop) (hcf : ∀ w, (callFunc g caps).run Try.prog w = .ok (.enter g caps) w)
    (h : Calls Try.prog g caps (w.alloc (.cells #[.int .i64 0] 30)) fun e w1 => e = .returned (.tuple #[]) ∧ Blk w1 w.heap.size 30 #[.int .i64 0] ∧ R w1) :
    Calls Try.prog 38 #[.func (.func g) #[] caps] w fun e w' => e = .returned (.int .i64 0) ∧ ∃ w1, R w1 ∧ w1.grownBy w' (some w.heap.size) := by
  have hmf : ∀ (fn : Fn) (first cap : Array Value) (w : World), (Instr.makeFunc fn first cap).run Try.prog w = .ok (.func fn first cap) w := fun _ _ _ _ => rfl
  have H := Lib.hid h
  clear h
  go_enter_defers Try.func38, Try.ntmps38
  go_wp2_with fail
  refine H.out.mono ?_
  rintro e w1 ⟨rfl, hB, hR⟩
  have hc := hB.cell 0
  have hf := hB.frozen 0
  go_wp2
  refine leaves_cons (f := 54) (args := #[.pointer (some ⟨w.heap.size, 0, none⟩)]) (by simp) (by simp [go_sem]) ?_
  refine (catch_idle _ _).mono ?_
  rintro e u' w'' ⟨rfl, rfl, rfl⟩
  have hB2 := (hB.set_ 0 (.int .i64 0)).alloc (.cells #[.int .i64 0] 79)
  have hc2 := hB2.cell 0
  refine ⟨.int .i64 0, ?_, rfl, w1, hR, grown_alloc (grown_setCell (World.grownBy.refl _ _) (.inl rfl) _) _⟩
  simp [results, Try.results38, go_sem] at hc2 ⊢
  simp [hc2]

set_option maxRecDepth 100000 in
set_option maxHeartbeats 1000000 in
theorem read_err (g : FuncId) (caps : Array Value) (w : World) (c : Int) (R : World → Prop) (hcf : ∀ w, (callFunc g caps).run Try.prog w = .ok (.enter g caps) w)
    (h : Calls Try.prog g caps (w.alloc (.cells #[.int .i64 0] 30)) fun e w1 => e = .panicked (stopV c) ∧ Blk w1 w.heap.size 30 #[.int .i64 0] ∧ R w1) :
    Calls Try.prog 38 #[.func (.func g) #[] caps] w fun e w' => e = .returned (.int .i64 c) ∧ ∃ w1, R w1 ∧ w1.grownBy w' (some w.heap.size) := by
  have hmf : ∀ (fn : Fn) (first cap : Array Value) (w : World), (Instr.makeFunc fn first cap).run Try.prog w = .ok (.func fn first cap) w := fun _ _ _ _ => rfl
  have H := Lib.hid h
  clear h
  go_enter_defers Try.func38, Try.ntmps38
  go_wp2_with fail
  refine H.out.mono ?_
  rintro e w1 ⟨rfl, hB, hR⟩
  refine leaves_cons (f := 54) (args := #[.pointer (some ⟨w.heap.size, 0, none⟩)]) (by simp) (by simp [go_sem]) ?_
  refine (catch_stop _ 0 c [] _ (hB.cell 0) (hB.frozen 0) hB.lt).mono ?_
  rintro e u' w'' ⟨rfl, rfl, rfl⟩
  have hB2 := (hB.alloc (.cells #[.int .i64 c] 79)).set_ 0 (.int .i64 c)
  have hc2 := hB2.cell 0
  refine ⟨.int .i64 c, ?_, rfl, w1, hR, grown_setCell (grown_alloc (World.grownBy.refl _ _) _) (.inl rfl) _⟩
  simp [results, Try.results38, go_sem] at hc2 ⊢
  simp [hc2]
end Go.Proofs.Ythpngcfggnhdjaa
