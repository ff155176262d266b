/- The functions that FnExactBlockSame reaches, as the interpreter has them; the table is what the program is. -/
import Derived.Test.YtnbgdddcbmlcpaaEng28
import Derived.Test.YtnbgdddcbmlcpaaProg
namespace Go.Proofs.Ytnbgdddcbmlcpaa.Eng.BlockSame
open Go.RowKit Go.Proofs
/-- loop.example/g00399/laws.toByteS -/
def a18 : AFun := ⟨22, [.tmp 2], (.seq (.region false 0 [⟨some 2, none, .mv (.c (.nil))⟩]) (.seq (.region false 0 [⟨some 5, none, .mv (.s 0)⟩, ⟨some 6, none, .len (.s 5)⟩, ⟨some 7, none, .mks 1 1 [.int .u8 0] (.s 6)⟩, ⟨some 3, none, .mv (.s 7)⟩]) (.seq (.seq (.region false 0 [⟨some 4, none, .mv (.c (.int .i64 0))⟩]) (.block 0 (.loop true [1, 2, 5, 6, 7, 8, 9, 10, 11, 12, 13, 14, 15, 16, 17, 18, 19, 20, 21] (.seq (.seq (.region false 0 [⟨some 8, none, .mv (.s 4)⟩, ⟨some 9, none, .mv (.s 0)⟩, ⟨some 10, none, .len (.s 9)⟩, ⟨some 11, none, .bin .lss (.s 8) (.s 10)⟩]) (.cond (.s 11) .skip (.exit 0))) (.seq (.block 1 (.region false 0 [⟨some 14, none, .mv (.s 3)⟩, ⟨some 15, none, .mv (.s 4)⟩, ⟨some 16, none, .mv (.s 0)⟩, ⟨some 17, none, .mv (.s 4)⟩, ⟨some 18, none, .ia 1 (.s 16) (.s 17)⟩, ⟨some 19, none, .ld 1 false (.s 18)⟩, ⟨some 20, none, .ia 1 (.s 14) (.s 15)⟩, ⟨none, none, .sto 1 (.s 20) (.s 19)⟩])) (.region false 0 [⟨some 12, none, .mv (.s 4)⟩, ⟨some 13, none, .bin .add (.s 12) (.c (.int .i64 1))⟩, ⟨some 4, none, .mv (.s 13)⟩])))))) (.seq (.region false 0 [⟨some 21, none, .mv (.s 3)⟩, ⟨some 2, none, .mv (.s 21)⟩]) .ret))))⟩
/-- loop.example/g00399/spec.BlockOk -/
def a17 : AFun := ⟨6, [.tmp 2], (.seq (.region false 0 [⟨some 2, none, .mv (.c (.bool false))⟩]) (.seq (.region false 0 [⟨some 3, none, .mv (.s 0)⟩, ⟨some 4, none, .len (.s 3)⟩, ⟨some 5, none, .bin .eql (.s 4) (.c (.int .i64 8))⟩, ⟨some 2, none, .mv (.s 5)⟩]) .ret))⟩
/-- loop.example/g00399/spec.BlockSame -/
def a21 : AFun := ⟨18, [.tmp 4], (.seq (.region false 0 [⟨some 4, none, .mv (.c (.bool false))⟩]) (.seq (.region false 0 [⟨some 5, none, .mv (.s 0)⟩, ⟨some 6, none, .call 17 [((.s 5), [1])]⟩, ⟨some 7, none, .mv (.s 6)⟩, ⟨some 8, (some (7, true)), .mv (.s 1)⟩, ⟨some 9, (some (7, true)), .call 17 [((.s 8), [1])]⟩, ⟨some 10, none, .pick (.s 7) (.s 9) (.c (.bool false))⟩, ⟨some 11, none, .mv (.s 10)⟩, ⟨some 12, (some (11, true)), .mv (.s 0)⟩, ⟨some 13, (some (11, true)), .b2s (.s 12)⟩, ⟨some 14, (some (11, true)), .mv (.s 1)⟩, ⟨some 15, (some (11, true)), .b2s (.s 14)⟩, ⟨some 16, (some (11, true)), .bin .eql (.s 13) (.s 15)⟩, ⟨some 17, none, .pick (.s 11) (.s 16) (.c (.bool false))⟩, ⟨some 4, none, .mv (.s 17)⟩]) .ret))⟩
/-- loop.example/g00399/impl.BlockOk -/
def a19 : AFun := ⟨6, [.tmp 2], (.seq (.region false 0 [⟨some 2, none, .mv (.c (.bool false))⟩]) (.seq (.region false 0 [⟨some 3, none, .mv (.s 0)⟩, ⟨some 4, none, .len (.s 3)⟩, ⟨some 5, none, .bin .eql (.s 4) (.c (.int .i64 8))⟩, ⟨some 2, none, .mv (.s 5)⟩]) .ret))⟩
/-- bytes.Equal -/
def a50 : AFun := ⟨10, [.tmp 4], (.seq (.region false 0 [⟨some 4, none, .mv (.c (.bool false))⟩]) (.seq (.region false 0 [⟨some 5, none, .mv (.s 0)⟩, ⟨some 6, none, .b2s (.s 5)⟩, ⟨some 7, none, .mv (.s 1)⟩, ⟨some 8, none, .b2s (.s 7)⟩, ⟨some 9, none, .bin .eql (.s 6) (.s 8)⟩, ⟨some 4, none, .mv (.s 9)⟩]) .ret))⟩
/-- loop.example/g00399/impl.BlockSame -/
def a22 : AFun := ⟨16, [.tmp 4], (.seq (.region false 0 [⟨some 4, none, .mv (.c (.bool false))⟩]) (.seq (.region false 0 [⟨some 5, none, .mv (.s 0)⟩, ⟨some 6, none, .call 19 [((.s 5), [1])]⟩, ⟨some 7, none, .mv (.s 6)⟩, ⟨some 8, (some (7, true)), .mv (.s 1)⟩, ⟨some 9, (some (7, true)), .call 19 [((.s 8), [1])]⟩, ⟨some 10, none, .pick (.s 7) (.s 9) (.c (.bool false))⟩, ⟨some 11, none, .mv (.s 10)⟩, ⟨some 12, (some (11, true)), .mv (.s 0)⟩, ⟨some 13, (some (11, true)), .mv (.s 1)⟩, ⟨some 14, (some (11, true)), .call 50 [((.s 12), [1]), ((.s 13), [1])]⟩, ⟨some 15, none, .pick (.s 11) (.s 14) (.c (.bool false))⟩, ⟨some 4, none, .mv (.s 15)⟩]) .ret))⟩
/-- loop.example/g00399/laws.eqByteS -/
def a20 : AFun := ⟨26, [.tmp 4], (.seq (.region false 0 [⟨some 4, none, .mv (.c (.bool false))⟩]) (.seq (.seq (.region false 0 [⟨some 6, none, .mv (.s 0)⟩, ⟨some 7, none, .len (.s 6)⟩, ⟨some 8, none, .mv (.s 1)⟩, ⟨some 9, none, .len (.s 8)⟩, ⟨some 10, none, .bin .neq (.s 7) (.s 9)⟩]) (.cond (.s 10) (.seq (.region false 0 [⟨some 4, none, .mv (.c (.bool false))⟩]) .ret) .skip)) (.seq (.seq (.region false 0 [⟨some 5, none, .mv (.c (.int .i64 0))⟩]) (.block 0 (.loop true [2, 3, 4, 6, 7, 8, 9, 10, 11, 12, 13, 14, 15, 16, 17, 18, 19, 20, 21, 22, 23, 24, 25] (.seq (.seq (.region false 0 [⟨some 11, none, .mv (.s 5)⟩, ⟨some 12, none, .mv (.s 0)⟩, ⟨some 13, none, .len (.s 12)⟩, ⟨some 14, none, .bin .lss (.s 11) (.s 13)⟩]) (.cond (.s 14) .skip (.exit 0))) (.seq (.block 1 (.seq (.region true 9 [⟨some 17, none, .mv (.s 0)⟩, ⟨some 18, none, .mv (.s 5)⟩, ⟨some 19, none, .ia 1 (.s 17) (.s 18)⟩, ⟨some 20, none, .ld 1 false (.s 19)⟩, ⟨some 21, none, .mv (.s 1)⟩, ⟨some 22, none, .mv (.s 5)⟩, ⟨some 23, none, .ia 1 (.s 21) (.s 22)⟩, ⟨some 24, none, .ld 1 false (.s 23)⟩, ⟨some 25, none, .bin .neq (.s 20) (.s 24)⟩]) (.cond (.s 25) (.seq (.region false 0 [⟨some 4, none, .mv (.c (.bool false))⟩]) .ret) .skip))) (.region false 0 [⟨some 15, none, .mv (.s 5)⟩, ⟨some 16, none, .bin .add (.s 15) (.c (.int .i64 1))⟩, ⟨some 5, none, .mv (.s 16)⟩])))))) (.seq (.region false 0 [⟨some 4, none, .mv (.c (.bool true))⟩]) .ret))))⟩
/-- loop.example/g00399/laws.FnExactBlockSame -/
def a5 : AFun := ⟨40, [.tmp 4], (.seq (.region false 0 [⟨some 4, none, .mv (.c (.bool false))⟩]) (.seq (.seq (.region false 0 [⟨some 9, none, .mv (.s 0)⟩, ⟨some 10, none, .len (.s 9)⟩, ⟨some 11, none, .bin .gtr (.s 10) (.c (.int .i64 1048576))⟩]) (.cond (.s 11) (.seq (.region false 0 [⟨some 4, none, .mv (.c (.bool true))⟩]) .ret) .skip)) (.seq (.seq (.region false 0 [⟨some 12, none, .mv (.s 1)⟩, ⟨some 13, none, .len (.s 12)⟩, ⟨some 14, none, .bin .gtr (.s 13) (.c (.int .i64 1048576))⟩]) (.cond (.s 14) (.seq (.region false 0 [⟨some 4, none, .mv (.c (.bool true))⟩]) .ret) .skip)) (.seq (.region false 0 [⟨some 15, none, .mv (.s 0)⟩, ⟨some 16, none, .call 18 [((.s 15), [1])]⟩, ⟨some 17, none, .mv (.s 1)⟩, ⟨some 18, none, .call 18 [((.s 17), [1])]⟩, ⟨some 19, none, .call 21 [((.s 16), [1]), ((.s 18), [1])]⟩, ⟨some 5, none, .mv (.s 19)⟩]) (.seq (.region false 0 [⟨some 20, none, .mv (.s 0)⟩, ⟨some 21, none, .call 18 [((.s 20), [1])]⟩, ⟨some 6, none, .mv (.s 21)⟩]) (.seq (.region false 0 [⟨some 22, none, .mv (.s 1)⟩, ⟨some 23, none, .call 18 [((.s 22), [1])]⟩, ⟨some 7, none, .mv (.s 23)⟩]) (.seq (.region false 0 [⟨some 24, none, .mv (.s 6)⟩, ⟨some 25, none, .mv (.s 7)⟩, ⟨some 26, none, .call 22 [((.s 24), [1]), ((.s 25), [1])]⟩, ⟨some 8, none, .mv (.s 26)⟩]) (.seq (.seq (.region false 0 [⟨some 27, none, .mv (.s 8)⟩, ⟨some 28, none, .mv (.s 5)⟩, ⟨some 29, none, .beq true (.s 27) (.s 28)⟩]) (.cond (.s 29) (.seq (.region false 0 [⟨some 4, none, .mv (.c (.bool false))⟩]) .ret) .skip)) (.seq (.seq (.region false 0 [⟨some 30, none, .mv (.s 6)⟩, ⟨some 31, none, .mv (.s 0)⟩, ⟨some 32, none, .call 18 [((.s 31), [1])]⟩, ⟨some 33, none, .call 20 [((.s 30), [1]), ((.s 32), [1])]⟩, ⟨some 34, none, .un .not (.s 33)⟩]) (.cond (.s 34) (.seq (.region false 0 [⟨some 4, none, .mv (.c (.bool false))⟩]) .ret) .skip)) (.seq (.seq (.region false 0 [⟨some 35, none, .mv (.s 7)⟩, ⟨some 36, none, .mv (.s 1)⟩, ⟨some 37, none, .call 18 [((.s 36), [1])]⟩, ⟨some 38, none, .call 20 [((.s 35), [1]), ((.s 37), [1])]⟩, ⟨some 39, none, .un .not (.s 38)⟩]) (.cond (.s 39) (.seq (.region false 0 [⟨some 4, none, .mv (.c (.bool false))⟩]) .ret) .skip)) (.seq (.region false 0 [⟨some 4, none, .mv (.c (.bool true))⟩]) .ret)))))))))))⟩
def tab : FuncId → Option AFun := fun f => match f with
  | 18 => some a18
  | 17 => some a17
  | 21 => some a21
  | 19 => some a19
  | 50 => some a50
  | 22 => some a22
  | 20 => some a20
  | 5 => some a5
  | _ => none
theorem ok18 : ∃ fn c, Try.prog.funcs[18]? = some fn ∧ fn.body = some c ∧ fn.name ≠ "runtime.NumGoroutine" ∧ fn.ntmps = a18.n ∧ chkRes Try.prog fn.results.toList a18.res = true ∧ chkCode Try.prog c a18.body = true :=
  ⟨Try.f18, _, Try.func18, rfl, by decide, rfl, by decide +kernel, by decide +kernel⟩
theorem ok17 : ∃ fn c, Try.prog.funcs[17]? = some fn ∧ fn.body = some c ∧ fn.name ≠ "runtime.NumGoroutine" ∧ fn.ntmps = a17.n ∧ chkRes Try.prog fn.results.toList a17.res = true ∧ chkCode Try.prog c a17.body = true :=
  ⟨Try.f17, _, Try.func17, rfl, by decide, rfl, by decide +kernel, by decide +kernel⟩
theorem ok21 : ∃ fn c, Try.prog.funcs[21]? = some fn ∧ fn.body = some c ∧ fn.name ≠ "runtime.NumGoroutine" ∧ fn.ntmps = a21.n ∧ chkRes Try.prog fn.results.toList a21.res = true ∧ chkCode Try.prog c a21.body = true :=
  ⟨Try.f21, _, Try.func21, rfl, by decide, rfl, by decide +kernel, by decide +kernel⟩
theorem ok19 : ∃ fn c, Try.prog.funcs[19]? = some fn ∧ fn.body = some c ∧ fn.name ≠ "runtime.NumGoroutine" ∧ fn.ntmps = a19.n ∧ chkRes Try.prog fn.results.toList a19.res = true ∧ chkCode Try.prog c a19.body = true :=
  ⟨Try.f19, _, Try.func19, rfl, by decide, rfl, by decide +kernel, by decide +kernel⟩
theorem ok50 : ∃ fn c, Try.prog.funcs[50]? = some fn ∧ fn.body = some c ∧ fn.name ≠ "runtime.NumGoroutine" ∧ fn.ntmps = a50.n ∧ chkRes Try.prog fn.results.toList a50.res = true ∧ chkCode Try.prog c a50.body = true :=
  ⟨Try.f50, _, Try.func50, rfl, by decide, rfl, by decide +kernel, by decide +kernel⟩
theorem ok22 : ∃ fn c, Try.prog.funcs[22]? = some fn ∧ fn.body = some c ∧ fn.name ≠ "runtime.NumGoroutine" ∧ fn.ntmps = a22.n ∧ chkRes Try.prog fn.results.toList a22.res = true ∧ chkCode Try.prog c a22.body = true :=
  ⟨Try.f22, _, Try.func22, rfl, by decide, rfl, by decide +kernel, by decide +kernel⟩
theorem ok20 : ∃ fn c, Try.prog.funcs[20]? = some fn ∧ fn.body = some c ∧ fn.name ≠ "runtime.NumGoroutine" ∧ fn.ntmps = a20.n ∧ chkRes Try.prog fn.results.toList a20.res = true ∧ chkCode Try.prog c a20.body = true :=
  ⟨Try.f20, _, Try.func20, rfl, by decide, rfl, by decide +kernel, by decide +kernel⟩
theorem ok5 : ∃ fn c, Try.prog.funcs[5]? = some fn ∧ fn.body = some c ∧ fn.name ≠ "runtime.NumGoroutine" ∧ fn.ntmps = a5.n ∧ chkRes Try.prog fn.results.toList a5.res = true ∧ chkCode Try.prog c a5.body = true :=
  ⟨Try.f5, _, Try.func5, rfl, by decide, rfl, by decide +kernel, by decide +kernel⟩
theorem tabOk : TabOk Try.prog tab := by
  intro f af h
  unfold tab at h
  split at h
  · cases h; exact ok18
  · cases h; exact ok17
  · cases h; exact ok21
  · cases h; exact ok19
  · cases h; exact ok50
  · cases h; exact ok22
  · cases h; exact ok20
  · cases h; exact ok5
  · cases h
end Go.Proofs.Ytnbgdddcbmlcpaa.Eng.BlockSame
