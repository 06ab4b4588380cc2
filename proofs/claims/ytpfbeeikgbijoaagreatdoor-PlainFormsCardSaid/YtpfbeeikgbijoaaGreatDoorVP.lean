/- Rules: what each path of each function does (printed). -/
import Derived.Test.YtpfbeeikgbijoaaGreatDoorVX
namespace Go.Proofs.YtpfbeeikgbijoaaGreatDoor.V
open Go
set_option linter.unusedVariables false
set_option maxRecDepth 10000
set_option maxHeartbeats 1000000
/- caliper caliperlaw17.PlainForms -/
def law_PlainForms (f : Form) (q0 : Bool) : Prop :=
  R 4 [(.d (e_Form f))] (dens []) = some (.ret (ab q0), dens [])
/- caliper plain.Yes -/
def plain_Yes (f : Form) (q0 : Bool) : Prop :=
  R 16 [(.d (e_Form f))] (dens []) = some (.ret (ab q0), dens [])
theorem plain_Yes_r0 {f : Form} (h0 : f.Never = true) : plain_Yes f false := by
  exact R_fn tab_16 rfl ⟨0, fun n hn => xFn_run (p := some _) [.q true] (by kernel_rfl) h0⟩
theorem plain_Yes_r1 {f : Form} (h0 : f.Never = false) (h1 : (f.Rules.xs.length : Int) = 0) : plain_Yes f true := by
  exact R_fn tab_16 rfl ⟨0, fun n hn => xFn_run (p := some _) [.q false, .n f.Rules.xs.length, .b true] (by kernel_rfl) (And.intro h0 (And.intro (len_dl e_Rule f.Rules.xs) h1))⟩
theorem plain_Yes_r2 {f : Form} (h0 : f.Never = false) (h1 : ¬ (f.Rules.xs.length : Int) = 0) : plain_Yes f false := by
  exact R_fn tab_16 rfl ⟨0, fun n hn => xFn_run (p := some _) [.q false, .n f.Rules.xs.length, .b false] (by kernel_rfl) (And.intro h0 (And.intro (len_dl e_Rule f.Rules.xs) h1))⟩
/- caliper caliperref17.Yes -/
def ref17_Yes (f : Form) (q0 : Bool) : Prop :=
  R 17 [(.d (e_Form f))] (dens []) = some (.ret (ab q0), dens [])
theorem ref17_Yes_r0 {f : Form} (h0 : f.Never = true) : ref17_Yes f false := by
  exact R_fn tab_17 rfl ⟨0, fun n hn => xFn_run (p := some _) [.q true] (by kernel_rfl) h0⟩
theorem ref17_Yes_r1 {f : Form} (h0 : f.Never = false) (h1 : (f.Rules.xs.length : Int) = 0) : ref17_Yes f true := by
  exact R_fn tab_17 rfl ⟨0, fun n hn => xFn_run (p := some _) [.q false, .n f.Rules.xs.length, .b true] (by kernel_rfl) (And.intro h0 (And.intro (len_dl e_Rule f.Rules.xs) h1))⟩
theorem ref17_Yes_r2 {f : Form} (h0 : f.Never = false) (h1 : ¬ (f.Rules.xs.length : Int) = 0) : ref17_Yes f false := by
  exact R_fn tab_17 rfl ⟨0, fun n hn => xFn_run (p := some _) [.q false, .n f.Rules.xs.length, .b false] (by kernel_rfl) (And.intro h0 (And.intro (len_dl e_Rule f.Rules.xs) h1))⟩
/- caliper caliperlaw17.heads -/
def law_heads (q0 : Bool) : Prop :=
  R 15 [] (dens []) = some (.ret (ab q0), dens [])
theorem law_PlainForms_r0 {f : Form} (h0 : plain_Yes f true) (h1 : ref17_Yes f true) (h2 : law_heads true) : law_PlainForms f true := by
  exact R_fn tab_4 rfl ⟨0, fun n hn => xFn_run (p := some _) [.d (.bool true), .d (.bool true), .b true, .d (.bool true)] (by kernel_rfl) (And.intro h0 (And.intro h1 (And.intro (rfl : (true == true) = true) h2)))⟩
theorem law_PlainForms_r1 {f : Form} (h0 : plain_Yes f false) (h1 : ref17_Yes f false) (h2 : law_heads true) : law_PlainForms f true := by
  exact R_fn tab_4 rfl ⟨0, fun n hn => xFn_run (p := some _) [.d (.bool false), .d (.bool false), .b true, .d (.bool true)] (by kernel_rfl) (And.intro h0 (And.intro h1 (And.intro (rfl : (false == false) = true) h2)))⟩

end Go.Proofs.YtpfbeeikgbijoaaGreatDoor.V
