/- Facts on the types and the functions of the program, as the model has them. -/
import Derived.Test.YtomigflbiijmpaaAmo
import Derived.Test.YtomigflbiijmpaaProg
namespace Go.Proofs.Ytomigflbiijmpaa
open Am Go.Proofs.Try
theorem agg2 : aggT prog 2 = some false := rfl
theorem sz2 : szT prog 2 = some 1 := rfl
theorem und2 : prog.underlying 2 = some (.int .i64) := rfl
theorem zero2 : zeroA prog 2 = some [.raw (.int .i64 0)] := rfl
theorem agg3 : aggT prog 3 = some false := rfl
theorem sz3 : szT prog 3 = some 1 := rfl
theorem und3 : prog.underlying 3 = some (.int .i64) := rfl
theorem zero3 : zeroA prog 3 = some [.raw (.int .i64 0)] := rfl
theorem agg4 : aggT prog 4 = some false := rfl
theorem sz4 : szT prog 4 = some 1 := rfl
theorem und4 : prog.underlying 4 = some .bool := rfl
theorem zero4 : zeroA prog 4 = some [.raw (.bool false)] := rfl
theorem agg9 : aggT prog 9 = some false := rfl
theorem sz9 : szT prog 9 = some 1 := rfl
theorem und9 : prog.underlying 9 = some .string := rfl
theorem agg22 : aggT prog 22 = some false := rfl
theorem sz22 : szT prog 22 = some 1 := rfl
theorem und22 : prog.underlying 22 = some (.slice 31) := rfl
theorem zero22 : zeroA prog 22 = some [.raw (.slice none 0 0)] := rfl
theorem agg27 : aggT prog 27 = some true := rfl
theorem sz27 : szT prog 27 = some 2 := rfl
theorem zero27 : zeroA prog 27 = some [.raw (.int .i64 0), .raw (.int .i64 0)] := rfl
theorem agg29 : aggT prog 29 = some true := rfl
theorem sz29 : szT prog 29 = some 2 := rfl
theorem zero29 : zeroA prog 29 = some [.raw (.int .i64 0), .raw (.int .i64 0)] := rfl
theorem agg31 : aggT prog 31 = some true := rfl
theorem sz31 : szT prog 31 = some 1 := rfl
theorem zero31 : zeroA prog 31 = some [.raw (.int .i64 0)] := rfl
theorem agg34 : aggT prog 34 = some false := rfl
theorem sz34 : szT prog 34 = some 1 := rfl
theorem und34 : prog.underlying 34 = some (.int .u64) := rfl
theorem zero34 : zeroA prog 34 = some [.raw (.int .u64 0)] := rfl
theorem agg35 : aggT prog 35 = some false := rfl
theorem sz35 : szT prog 35 = some 1 := rfl
theorem und35 : prog.underlying 35 = some (.float .f64) := rfl
theorem zero35 : zeroA prog 35 = some [.raw (.float .f64 0)] := rfl
theorem agg37 : aggT prog 37 = some false := rfl
theorem sz37 : szT prog 37 = some 1 := rfl
theorem und37 : prog.underlying 37 = some (.int .u64) := rfl
theorem zero37 : zeroA prog 37 = some [.raw (.int .u64 0)] := rfl
theorem fok27 : fieldsOk prog 27 = true := rfl
theorem fok29 : fieldsOk prog 29 = true := rfl
theorem fok31 : fieldsOk prog 31 = true := rfl
theorem pl27_0 : placeT prog 27 0 = some (0, 1) := rfl
theorem pl27_1 : placeT prog 27 1 = some (1, 1) := rfl
theorem pl29_0 : placeT prog 29 0 = some (0, 1) := rfl
theorem pl29_1 : placeT prog 29 1 = some (1, 1) := rfl
theorem pl31_0 : placeT prog 31 0 = some (0, 1) := rfl
theorem fa27_0 : ∀ m x c, rFieldAddr prog 27 m x 0 c = fa m x 0 c := fun _ _ _ => rfl
theorem fa27_1 : ∀ m x c, rFieldAddr prog 27 m x 1 c = fa m x 1 c := fun _ _ _ => rfl
theorem fa29_0 : ∀ m x c, rFieldAddr prog 29 m x 0 c = fa m x 0 c := fun _ _ _ => rfl
theorem fa29_1 : ∀ m x c, rFieldAddr prog 29 m x 1 c = fa m x 1 c := fun _ _ _ => rfl
theorem fa31_0 : ∀ m x c, rFieldAddr prog 31 m x 0 c = fa m x 0 c := fun _ _ _ => rfl
theorem call1 : callable prog 1 = false := rfl
theorem call8 : callable prog 8 = true := rfl
theorem call9 : callable prog 9 = true := rfl
theorem call10 : callable prog 10 = true := rfl
theorem call11 : callable prog 11 = true := rfl
theorem call12 : callable prog 12 = true := rfl
theorem call13 : callable prog 13 = true := rfl
theorem call14 : callable prog 14 = true := rfl
theorem call15 : callable prog 15 = true := rfl
theorem call16 : callable prog 16 = false := rfl
theorem call17 : callable prog 17 = true := rfl
theorem call18 : callable prog 18 = true := rfl
theorem call19 : callable prog 19 = true := rfl
theorem call20 : callable prog 20 = true := rfl
theorem call21 : callable prog 21 = true := rfl
theorem call22 : callable prog 22 = true := rfl
theorem call23 : callable prog 23 = true := rfl
theorem call24 : callable prog 24 = true := rfl
theorem call25 : callable prog 25 = true := rfl
theorem call26 : callable prog 26 = true := rfl
theorem call27 : callable prog 27 = true := rfl
theorem call28 : callable prog 28 = true := rfl
theorem call29 : callable prog 29 = true := rfl
theorem call30 : callable prog 30 = true := rfl
theorem call31 : callable prog 31 = true := rfl
theorem call32 : callable prog 32 = false := rfl
theorem call33 : callable prog 33 = true := rfl
theorem call34 : callable prog 34 = true := rfl
theorem call35 : callable prog 35 = true := rfl
theorem call36 : callable prog 36 = true := rfl
theorem call37 : callable prog 37 = true := rfl
theorem call38 : callable prog 38 = true := rfl
theorem call39 : callable prog 39 = true := rfl
theorem call40 : callable prog 40 = true := rfl
theorem call41 : callable prog 41 = false := rfl
theorem call42 : callable prog 42 = true := rfl
theorem call43 : callable prog 43 = true := rfl
theorem call44 : callable prog 44 = true := rfl
theorem call45 : callable prog 45 = false := rfl
theorem call46 : callable prog 46 = true := rfl
theorem call47 : callable prog 47 = true := rfl
theorem call48 : callable prog 48 = true := rfl
theorem call49 : callable prog 49 = false := rfl
theorem call50 : callable prog 50 = true := rfl
theorem conc9 : prog.concrete 9 = true := rfl
end Go.Proofs.Ytomigflbiijmpaa
