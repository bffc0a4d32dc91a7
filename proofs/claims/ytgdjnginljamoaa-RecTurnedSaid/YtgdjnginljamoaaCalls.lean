/- A call of a function that the source names enters it: one fact a function. Written by program (gencalls.py). -/
import Derived.Test.YtgdjnginljamoaaProg
import Derived.Test.YtgdjnginljamoaaEng
namespace Go.Proofs.Ytgdjnginljamoaa
open Go
theorem cf3 (args : Array Value) (w : World) : (callFunc 3 args).run Try.prog w = .ok (.enter 3 args) w := callFunc_of Try.func3 (by decide) rfl args w
theorem cf4 (args : Array Value) (w : World) : (callFunc 4 args).run Try.prog w = .ok (.enter 4 args) w := callFunc_of Try.func4 (by decide) rfl args w
theorem cf5 (args : Array Value) (w : World) : (callFunc 5 args).run Try.prog w = .ok (.enter 5 args) w := callFunc_of Try.func5 (by decide) rfl args w
theorem cf6 (args : Array Value) (w : World) : (callFunc 6 args).run Try.prog w = .ok (.enter 6 args) w := callFunc_of Try.func6 (by decide) rfl args w
theorem cf7 (args : Array Value) (w : World) : (callFunc 7 args).run Try.prog w = .ok (.enter 7 args) w := callFunc_of Try.func7 (by decide) rfl args w
theorem cf8 (args : Array Value) (w : World) : (callFunc 8 args).run Try.prog w = .ok (.enter 8 args) w := callFunc_of Try.func8 (by decide) rfl args w
theorem cf9 (args : Array Value) (w : World) : (callFunc 9 args).run Try.prog w = .ok (.enter 9 args) w := callFunc_of Try.func9 (by decide) rfl args w
theorem cf10 (args : Array Value) (w : World) : (callFunc 10 args).run Try.prog w = .ok (.enter 10 args) w := callFunc_of Try.func10 (by decide) rfl args w
theorem cf11 (args : Array Value) (w : World) : (callFunc 11 args).run Try.prog w = .ok (.enter 11 args) w := callFunc_of Try.func11 (by decide) rfl args w
theorem cf12 (args : Array Value) (w : World) : (callFunc 12 args).run Try.prog w = .ok (.enter 12 args) w := callFunc_of Try.func12 (by decide) rfl args w
theorem cf13 (args : Array Value) (w : World) : (callFunc 13 args).run Try.prog w = .ok (.enter 13 args) w := callFunc_of Try.func13 (by decide) rfl args w
theorem cf14 (args : Array Value) (w : World) : (callFunc 14 args).run Try.prog w = .ok (.enter 14 args) w := callFunc_of Try.func14 (by decide) rfl args w
theorem cf15 (args : Array Value) (w : World) : (callFunc 15 args).run Try.prog w = .ok (.enter 15 args) w := callFunc_of Try.func15 (by decide) rfl args w
theorem cf16 (args : Array Value) (w : World) : (callFunc 16 args).run Try.prog w = .ok (.enter 16 args) w := callFunc_of Try.func16 (by decide) rfl args w
attribute [go_sem ↓] cf3 cf4 cf5 cf6 cf7 cf8 cf9 cf10 cf11 cf12 cf13 cf14 cf15 cf16
end Go.Proofs.Ytgdjnginljamoaa
