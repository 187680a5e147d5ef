/- What the seat's types are: closed facts, printed by typefacts.py of this session. -/
import Derived.Test.YtiipaliigpkfhaaGreatBB
import Derived.Test.YtiipaliigpkfhaaGreatRows
import Derived.KernelRfl
set_option maxRecDepth 100000
namespace Go.Proofs.YtiipaliigpkfhaaGreat.Ab
open Go Go.RowKit Go.Proofs

theorem mixed : Tryz.prog.follows .mixedOrders = true := by kernel_rfl
@[simp] theorem und2 : pureEval Tryz.prog (underlying 2) = some (.int .i64) := by kernel_rfl
@[simp] theorem und3 : pureEval Tryz.prog (underlying 3) = some (.int .i64) := by kernel_rfl
@[simp] theorem und4 : pureEval Tryz.prog (underlying 4) = some (.bool) := by kernel_rfl
@[simp] theorem und5 : pureEval Tryz.prog (underlying 5) = some (.int .u8) := by kernel_rfl
@[simp] theorem und9 : pureEval Tryz.prog (underlying 9) = some (.string) := by kernel_rfl
@[simp] theorem und21 : pureEval Tryz.prog (underlying 21) = some (.int .i32) := by kernel_rfl
@[simp] theorem und22 : pureEval Tryz.prog (underlying 22) = some (.int .u64) := by kernel_rfl
@[simp] theorem und23 : pureEval Tryz.prog (underlying 23) = some (.slice 5) := by kernel_rfl
@[simp] theorem und24 : pureEval Tryz.prog (underlying 24) = some (.slice 43) := by kernel_rfl
@[simp] theorem und32 : pureEval Tryz.prog (underlying 32) = some (.slice 61) := by kernel_rfl
@[simp] theorem und33 : pureEval Tryz.prog (underlying 33) = some (.pointer 170) := by kernel_rfl
@[simp] theorem und34 : pureEval Tryz.prog (underlying 34) = some (.pointer 128) := by kernel_rfl
@[simp] theorem und38 : pureEval Tryz.prog (underlying 38) = some (.slice 47) := by kernel_rfl
@[simp] theorem und40 : pureEval Tryz.prog (underlying 40) = some (.slice 9) := by kernel_rfl
@[simp] theorem und41 : pureEval Tryz.prog (underlying 41) = some (.slice 28) := by kernel_rfl
@[simp] theorem und53 : pureEval Tryz.prog (underlying 53) = some (.slice 45) := by kernel_rfl
@[simp] theorem und56 : pureEval Tryz.prog (underlying 56) = some (.slice 3) := by kernel_rfl
@[simp] theorem und57 : pureEval Tryz.prog (underlying 57) = some (.slice 84) := by kernel_rfl
@[simp] theorem und58 : pureEval Tryz.prog (underlying 58) = some (.slice 106) := by kernel_rfl
@[simp] theorem und59 : pureEval Tryz.prog (underlying 59) = some (.slice 220) := by kernel_rfl
@[simp] theorem und72 : pureEval Tryz.prog (underlying 72) = some (.int .i64) := by kernel_rfl
@[simp] theorem und81 : pureEval Tryz.prog (underlying 81) = some (.slice 273) := by kernel_rfl
@[simp] theorem und82 : pureEval Tryz.prog (underlying 82) = some (.slice 215) := by kernel_rfl
@[simp] theorem und85 : pureEval Tryz.prog (underlying 85) = some (.slice 135) := by kernel_rfl
@[simp] theorem und93 : pureEval Tryz.prog (underlying 93) = some (.int .u64) := by kernel_rfl
@[simp] theorem und104 : pureEval Tryz.prog (underlying 104) = some (.slice 217) := by kernel_rfl
@[simp] theorem und112 : pureEval Tryz.prog (underlying 112) = some (.slice 115) := by kernel_rfl
@[simp] theorem und126 : pureEval Tryz.prog (underlying 126) = some (.slice 108) := by kernel_rfl
@[simp] theorem und146 : pureEval Tryz.prog (underlying 146) = some (.pointer 115) := by kernel_rfl
@[simp] theorem und167 : pureEval Tryz.prog (underlying 167) = some (.map 9 178) := by kernel_rfl
@[simp] theorem und168 : pureEval Tryz.prog (underlying 168) = some (.map 9 40) := by kernel_rfl
@[simp] theorem und178 : pureEval Tryz.prog (underlying 178) = some (.pointer 177) := by kernel_rfl
@[simp] theorem und180 : pureEval Tryz.prog (underlying 180) = some (.pointer 183) := by kernel_rfl
@[simp] theorem und181 : pureEval Tryz.prog (underlying 181) = some (.slice 279) := by kernel_rfl
@[simp] theorem und185 : pureEval Tryz.prog (underlying 185) = some (.slice 269) := by kernel_rfl
@[simp] theorem und192 : pureEval Tryz.prog (underlying 192) = some (.map 3 3) := by kernel_rfl
@[simp] theorem und196 : pureEval Tryz.prog (underlying 196) = some (.pointer 84) := by kernel_rfl
@[simp] theorem und218 : pureEval Tryz.prog (underlying 218) = some (.slice 222) := by kernel_rfl
@[simp] theorem und225 : pureEval Tryz.prog (underlying 225) = some (.pointer 72) := by kernel_rfl
@[simp] theorem und232 : pureEval Tryz.prog (underlying 232) = some (.pointer 26) := by kernel_rfl
@[simp] theorem und283 : pureEval Tryz.prog (underlying 283) = some (.map 288 3) := by kernel_rfl
@[simp] theorem und297 : pureEval Tryz.prog (underlying 297) = some (.slice 23) := by kernel_rfl
@[simp] theorem und304 : pureEval Tryz.prog (underlying 304) = some (.int .u32) := by kernel_rfl
@[simp] theorem und328 : pureEval Tryz.prog (underlying 328) = some (.int .i64) := by kernel_rfl
@[simp] theorem und342 : pureEval Tryz.prog (underlying 342) = some (.pointer 106) := by kernel_rfl
@[simp] theorem und353 : pureEval Tryz.prog (underlying 353) = some (.int .u64) := by kernel_rfl
@[simp] theorem und357 : pureEval Tryz.prog (underlying 357) = some (.pointer 3) := by kernel_rfl
@[simp] theorem und365 : pureEval Tryz.prog (underlying 365) = some (.array 5 21) := by kernel_rfl
@[simp] theorem sz2 : pureEval Tryz.prog (Go.sizeOf 2) = some 1 := by kernel_rfl
@[simp] theorem sz3 : pureEval Tryz.prog (Go.sizeOf 3) = some 1 := by kernel_rfl
@[simp] theorem sz4 : pureEval Tryz.prog (Go.sizeOf 4) = some 1 := by kernel_rfl
@[simp] theorem sz5 : pureEval Tryz.prog (Go.sizeOf 5) = some 1 := by kernel_rfl
@[simp] theorem sz9 : pureEval Tryz.prog (Go.sizeOf 9) = some 1 := by kernel_rfl
@[simp] theorem sz21 : pureEval Tryz.prog (Go.sizeOf 21) = some 1 := by kernel_rfl
@[simp] theorem sz22 : pureEval Tryz.prog (Go.sizeOf 22) = some 1 := by kernel_rfl
@[simp] theorem sz23 : pureEval Tryz.prog (Go.sizeOf 23) = some 1 := by kernel_rfl
@[simp] theorem sz24 : pureEval Tryz.prog (Go.sizeOf 24) = some 1 := by kernel_rfl
@[simp] theorem sz26 : pureEval Tryz.prog (Go.sizeOf 26) = some 2 := by kernel_rfl
@[simp] theorem sz28 : pureEval Tryz.prog (Go.sizeOf 28) = some 4 := by kernel_rfl
@[simp] theorem sz32 : pureEval Tryz.prog (Go.sizeOf 32) = some 1 := by kernel_rfl
@[simp] theorem sz33 : pureEval Tryz.prog (Go.sizeOf 33) = some 1 := by kernel_rfl
@[simp] theorem sz34 : pureEval Tryz.prog (Go.sizeOf 34) = some 1 := by kernel_rfl
@[simp] theorem sz40 : pureEval Tryz.prog (Go.sizeOf 40) = some 1 := by kernel_rfl
@[simp] theorem sz41 : pureEval Tryz.prog (Go.sizeOf 41) = some 1 := by kernel_rfl
@[simp] theorem sz43 : pureEval Tryz.prog (Go.sizeOf 43) = some 2 := by kernel_rfl
@[simp] theorem sz45 : pureEval Tryz.prog (Go.sizeOf 45) = some 13 := by kernel_rfl
@[simp] theorem sz47 : pureEval Tryz.prog (Go.sizeOf 47) = some 15 := by kernel_rfl
@[simp] theorem sz53 : pureEval Tryz.prog (Go.sizeOf 53) = some 1 := by kernel_rfl
@[simp] theorem sz56 : pureEval Tryz.prog (Go.sizeOf 56) = some 1 := by kernel_rfl
@[simp] theorem sz57 : pureEval Tryz.prog (Go.sizeOf 57) = some 1 := by kernel_rfl
@[simp] theorem sz58 : pureEval Tryz.prog (Go.sizeOf 58) = some 1 := by kernel_rfl
@[simp] theorem sz59 : pureEval Tryz.prog (Go.sizeOf 59) = some 1 := by kernel_rfl
@[simp] theorem sz61 : pureEval Tryz.prog (Go.sizeOf 61) = some 11 := by kernel_rfl
@[simp] theorem sz68 : pureEval Tryz.prog (Go.sizeOf 68) = some 1 := by kernel_rfl
@[simp] theorem sz72 : pureEval Tryz.prog (Go.sizeOf 72) = some 1 := by kernel_rfl
@[simp] theorem sz81 : pureEval Tryz.prog (Go.sizeOf 81) = some 1 := by kernel_rfl
@[simp] theorem sz82 : pureEval Tryz.prog (Go.sizeOf 82) = some 1 := by kernel_rfl
@[simp] theorem sz84 : pureEval Tryz.prog (Go.sizeOf 84) = some 11 := by kernel_rfl
@[simp] theorem sz85 : pureEval Tryz.prog (Go.sizeOf 85) = some 1 := by kernel_rfl
@[simp] theorem sz102 : pureEval Tryz.prog (Go.sizeOf 102) = some 1 := by kernel_rfl
@[simp] theorem sz104 : pureEval Tryz.prog (Go.sizeOf 104) = some 1 := by kernel_rfl
@[simp] theorem sz106 : pureEval Tryz.prog (Go.sizeOf 106) = some 4 := by kernel_rfl
@[simp] theorem sz108 : pureEval Tryz.prog (Go.sizeOf 108) = some 31 := by kernel_rfl
@[simp] theorem sz112 : pureEval Tryz.prog (Go.sizeOf 112) = some 1 := by kernel_rfl
@[simp] theorem sz115 : pureEval Tryz.prog (Go.sizeOf 115) = some 15 := by kernel_rfl
@[simp] theorem sz126 : pureEval Tryz.prog (Go.sizeOf 126) = some 1 := by kernel_rfl
@[simp] theorem sz135 : pureEval Tryz.prog (Go.sizeOf 135) = some 4 := by kernel_rfl
@[simp] theorem sz137 : pureEval Tryz.prog (Go.sizeOf 137) = some 1 := by kernel_rfl
@[simp] theorem sz141 : pureEval Tryz.prog (Go.sizeOf 141) = some 1 := by kernel_rfl
@[simp] theorem sz145 : pureEval Tryz.prog (Go.sizeOf 145) = some 1 := by kernel_rfl
@[simp] theorem sz146 : pureEval Tryz.prog (Go.sizeOf 146) = some 1 := by kernel_rfl
@[simp] theorem sz151 : pureEval Tryz.prog (Go.sizeOf 151) = some 1 := by kernel_rfl
@[simp] theorem sz154 : pureEval Tryz.prog (Go.sizeOf 154) = some 1 := by kernel_rfl
@[simp] theorem sz165 : pureEval Tryz.prog (Go.sizeOf 165) = some 1 := by kernel_rfl
@[simp] theorem sz167 : pureEval Tryz.prog (Go.sizeOf 167) = some 1 := by kernel_rfl
@[simp] theorem sz168 : pureEval Tryz.prog (Go.sizeOf 168) = some 1 := by kernel_rfl
@[simp] theorem sz181 : pureEval Tryz.prog (Go.sizeOf 181) = some 1 := by kernel_rfl
@[simp] theorem sz189 : pureEval Tryz.prog (Go.sizeOf 189) = some 1 := by kernel_rfl
@[simp] theorem sz191 : pureEval Tryz.prog (Go.sizeOf 191) = some 1 := by kernel_rfl
@[simp] theorem sz215 : pureEval Tryz.prog (Go.sizeOf 215) = some 3 := by kernel_rfl
@[simp] theorem sz217 : pureEval Tryz.prog (Go.sizeOf 217) = some 4 := by kernel_rfl
@[simp] theorem sz218 : pureEval Tryz.prog (Go.sizeOf 218) = some 1 := by kernel_rfl
@[simp] theorem sz220 : pureEval Tryz.prog (Go.sizeOf 220) = some 4 := by kernel_rfl
@[simp] theorem sz222 : pureEval Tryz.prog (Go.sizeOf 222) = some 7 := by kernel_rfl
@[simp] theorem sz225 : pureEval Tryz.prog (Go.sizeOf 225) = some 1 := by kernel_rfl
@[simp] theorem sz247 : pureEval Tryz.prog (Go.sizeOf 247) = some 1 := by kernel_rfl
@[simp] theorem sz258 : pureEval Tryz.prog (Go.sizeOf 258) = some 1 := by kernel_rfl
@[simp] theorem sz261 : pureEval Tryz.prog (Go.sizeOf 261) = some 1 := by kernel_rfl
@[simp] theorem sz269 : pureEval Tryz.prog (Go.sizeOf 269) = some 3 := by kernel_rfl
@[simp] theorem sz273 : pureEval Tryz.prog (Go.sizeOf 273) = some 2 := by kernel_rfl
@[simp] theorem sz279 : pureEval Tryz.prog (Go.sizeOf 279) = some 2 := by kernel_rfl
@[simp] theorem sz353 : pureEval Tryz.prog (Go.sizeOf 353) = some 1 := by kernel_rfl
@[simp] theorem sz365 : pureEval Tryz.prog (Go.sizeOf 365) = some 5 := by kernel_rfl
@[simp] theorem ag2 : pureEval Tryz.prog (isAgg 2) = some false := by kernel_rfl
@[simp] theorem ag3 : pureEval Tryz.prog (isAgg 3) = some false := by kernel_rfl
@[simp] theorem ag4 : pureEval Tryz.prog (isAgg 4) = some false := by kernel_rfl
@[simp] theorem ag5 : pureEval Tryz.prog (isAgg 5) = some false := by kernel_rfl
@[simp] theorem ag9 : pureEval Tryz.prog (isAgg 9) = some false := by kernel_rfl
@[simp] theorem ag22 : pureEval Tryz.prog (isAgg 22) = some false := by kernel_rfl
@[simp] theorem ag23 : pureEval Tryz.prog (isAgg 23) = some false := by kernel_rfl
@[simp] theorem ag24 : pureEval Tryz.prog (isAgg 24) = some false := by kernel_rfl
@[simp] theorem ag26 : pureEval Tryz.prog (isAgg 26) = some true := by kernel_rfl
@[simp] theorem ag28 : pureEval Tryz.prog (isAgg 28) = some true := by kernel_rfl
@[simp] theorem ag32 : pureEval Tryz.prog (isAgg 32) = some false := by kernel_rfl
@[simp] theorem ag33 : pureEval Tryz.prog (isAgg 33) = some false := by kernel_rfl
@[simp] theorem ag34 : pureEval Tryz.prog (isAgg 34) = some false := by kernel_rfl
@[simp] theorem ag40 : pureEval Tryz.prog (isAgg 40) = some false := by kernel_rfl
@[simp] theorem ag41 : pureEval Tryz.prog (isAgg 41) = some false := by kernel_rfl
@[simp] theorem ag43 : pureEval Tryz.prog (isAgg 43) = some true := by kernel_rfl
@[simp] theorem ag45 : pureEval Tryz.prog (isAgg 45) = some true := by kernel_rfl
@[simp] theorem ag47 : pureEval Tryz.prog (isAgg 47) = some true := by kernel_rfl
@[simp] theorem ag53 : pureEval Tryz.prog (isAgg 53) = some false := by kernel_rfl
@[simp] theorem ag56 : pureEval Tryz.prog (isAgg 56) = some false := by kernel_rfl
@[simp] theorem ag57 : pureEval Tryz.prog (isAgg 57) = some false := by kernel_rfl
@[simp] theorem ag58 : pureEval Tryz.prog (isAgg 58) = some false := by kernel_rfl
@[simp] theorem ag59 : pureEval Tryz.prog (isAgg 59) = some false := by kernel_rfl
@[simp] theorem ag61 : pureEval Tryz.prog (isAgg 61) = some true := by kernel_rfl
@[simp] theorem ag68 : pureEval Tryz.prog (isAgg 68) = some false := by kernel_rfl
@[simp] theorem ag72 : pureEval Tryz.prog (isAgg 72) = some false := by kernel_rfl
@[simp] theorem ag81 : pureEval Tryz.prog (isAgg 81) = some false := by kernel_rfl
@[simp] theorem ag82 : pureEval Tryz.prog (isAgg 82) = some false := by kernel_rfl
@[simp] theorem ag84 : pureEval Tryz.prog (isAgg 84) = some true := by kernel_rfl
@[simp] theorem ag85 : pureEval Tryz.prog (isAgg 85) = some false := by kernel_rfl
@[simp] theorem ag102 : pureEval Tryz.prog (isAgg 102) = some true := by kernel_rfl
@[simp] theorem ag104 : pureEval Tryz.prog (isAgg 104) = some false := by kernel_rfl
@[simp] theorem ag106 : pureEval Tryz.prog (isAgg 106) = some true := by kernel_rfl
@[simp] theorem ag108 : pureEval Tryz.prog (isAgg 108) = some true := by kernel_rfl
@[simp] theorem ag112 : pureEval Tryz.prog (isAgg 112) = some false := by kernel_rfl
@[simp] theorem ag115 : pureEval Tryz.prog (isAgg 115) = some true := by kernel_rfl
@[simp] theorem ag126 : pureEval Tryz.prog (isAgg 126) = some false := by kernel_rfl
@[simp] theorem ag135 : pureEval Tryz.prog (isAgg 135) = some true := by kernel_rfl
@[simp] theorem ag137 : pureEval Tryz.prog (isAgg 137) = some false := by kernel_rfl
@[simp] theorem ag141 : pureEval Tryz.prog (isAgg 141) = some false := by kernel_rfl
@[simp] theorem ag145 : pureEval Tryz.prog (isAgg 145) = some false := by kernel_rfl
@[simp] theorem ag146 : pureEval Tryz.prog (isAgg 146) = some false := by kernel_rfl
@[simp] theorem ag154 : pureEval Tryz.prog (isAgg 154) = some true := by kernel_rfl
@[simp] theorem ag167 : pureEval Tryz.prog (isAgg 167) = some false := by kernel_rfl
@[simp] theorem ag168 : pureEval Tryz.prog (isAgg 168) = some false := by kernel_rfl
@[simp] theorem ag181 : pureEval Tryz.prog (isAgg 181) = some false := by kernel_rfl
@[simp] theorem ag189 : pureEval Tryz.prog (isAgg 189) = some false := by kernel_rfl
@[simp] theorem ag191 : pureEval Tryz.prog (isAgg 191) = some false := by kernel_rfl
@[simp] theorem ag215 : pureEval Tryz.prog (isAgg 215) = some true := by kernel_rfl
@[simp] theorem ag217 : pureEval Tryz.prog (isAgg 217) = some true := by kernel_rfl
@[simp] theorem ag218 : pureEval Tryz.prog (isAgg 218) = some false := by kernel_rfl
@[simp] theorem ag220 : pureEval Tryz.prog (isAgg 220) = some true := by kernel_rfl
@[simp] theorem ag222 : pureEval Tryz.prog (isAgg 222) = some true := by kernel_rfl
@[simp] theorem ag225 : pureEval Tryz.prog (isAgg 225) = some false := by kernel_rfl
@[simp] theorem ag247 : pureEval Tryz.prog (isAgg 247) = some false := by kernel_rfl
@[simp] theorem ag258 : pureEval Tryz.prog (isAgg 258) = some false := by kernel_rfl
@[simp] theorem ag261 : pureEval Tryz.prog (isAgg 261) = some false := by kernel_rfl
@[simp] theorem ag269 : pureEval Tryz.prog (isAgg 269) = some true := by kernel_rfl
@[simp] theorem ag273 : pureEval Tryz.prog (isAgg 273) = some true := by kernel_rfl
@[simp] theorem ag279 : pureEval Tryz.prog (isAgg 279) = some true := by kernel_rfl
@[simp] theorem ag353 : pureEval Tryz.prog (isAgg 353) = some false := by kernel_rfl
@[simp] theorem zv3 : pureEval Tryz.prog (zeroValue 3) = some (.int .i64 0) := by kernel_rfl
@[simp] theorem zv4 : pureEval Tryz.prog (zeroValue 4) = some (.bool false) := by kernel_rfl
@[simp] theorem zv5 : pureEval Tryz.prog (zeroValue 5) = some (.int .u8 0) := by kernel_rfl
@[simp] theorem zv9 : pureEval Tryz.prog (zeroValue 9) = some (.string ⟨#[]⟩) := by kernel_rfl
@[simp] theorem zv22 : pureEval Tryz.prog (zeroValue 22) = some (.int .u64 0) := by kernel_rfl
@[simp] theorem zv23 : pureEval Tryz.prog (zeroValue 23) = some (.slice none 0 0) := by kernel_rfl
@[simp] theorem zv26 : pureEval Tryz.prog (zeroValue 26) = some (.agg #[.slice none 0 0, .slice none 0 0]) := by kernel_rfl
@[simp] theorem zv28 : pureEval Tryz.prog (zeroValue 28) = some (.agg #[.int .u64 0, .slice none 0 0, .slice none 0 0, .slice none 0 0]) := by kernel_rfl
@[simp] theorem zv33 : pureEval Tryz.prog (zeroValue 33) = some (.pointer none) := by kernel_rfl
@[simp] theorem zv43 : pureEval Tryz.prog (zeroValue 43) = some (.agg #[.int .i64 0, .slice none 0 0]) := by kernel_rfl
@[simp] theorem zv45 : pureEval Tryz.prog (zeroValue 45) = some (.agg #[.string ⟨#[]⟩, .int .i64 0, .int .i64 0, .int .i64 0, .string ⟨#[]⟩, .string ⟨#[]⟩, .string ⟨#[]⟩, .bool false, .int .i64 0, .string ⟨#[]⟩, .bool false, .slice none 0 0, .slice none 0 0]) := by kernel_rfl
@[simp] theorem zv47 : pureEval Tryz.prog (zeroValue 47) = some (.agg #[.string ⟨#[]⟩, .int .i64 0, .int .i64 0, .int .i64 0, .string ⟨#[]⟩, .string ⟨#[]⟩, .string ⟨#[]⟩, .bool false, .int .i64 0, .string ⟨#[]⟩, .bool false, .slice none 0 0, .slice none 0 0, .string ⟨#[]⟩, .bool false]) := by kernel_rfl
@[simp] theorem zv61 : pureEval Tryz.prog (zeroValue 61) = some (.agg #[.string ⟨#[]⟩, .string ⟨#[]⟩, .slice none 0 0, .slice none 0 0, .slice none 0 0, .slice none 0 0, .slice none 0 0, .slice none 0 0, .string ⟨#[]⟩, .slice none 0 0, .slice none 0 0]) := by kernel_rfl
@[simp] theorem zv68 : pureEval Tryz.prog (zeroValue 68) = some (.nilFunc) := by kernel_rfl
@[simp] theorem zv72 : pureEval Tryz.prog (zeroValue 72) = some (.int .i64 0) := by kernel_rfl
@[simp] theorem zv84 : pureEval Tryz.prog (zeroValue 84) = some (.agg #[.string ⟨#[]⟩, .slice none 0 0, .slice none 0 0, .slice none 0 0, .slice none 0 0, .slice none 0 0, .slice none 0 0, .slice none 0 0, .slice none 0 0, .slice none 0 0, .slice none 0 0]) := by kernel_rfl
@[simp] theorem zv85 : pureEval Tryz.prog (zeroValue 85) = some (.slice none 0 0) := by kernel_rfl
@[simp] theorem zv102 : pureEval Tryz.prog (zeroValue 102) = some (.agg #[.pointer none]) := by kernel_rfl
@[simp] theorem zv106 : pureEval Tryz.prog (zeroValue 106) = some (.agg #[.string ⟨#[]⟩, .slice none 0 0, .slice none 0 0, .slice none 0 0]) := by kernel_rfl
@[simp] theorem zv108 : pureEval Tryz.prog (zeroValue 108) = some (.agg #[.string ⟨#[]⟩, .int .i64 0, .string ⟨#[]⟩, .string ⟨#[]⟩, .slice none 0 0, .slice none 0 0, .slice none 0 0, .slice none 0 0, .slice none 0 0, .slice none 0 0, .slice none 0 0, .slice none 0 0, .slice none 0 0, .slice none 0 0, .string ⟨#[]⟩, .slice none 0 0, .slice none 0 0, .slice none 0 0, .string ⟨#[]⟩, .int .i64 0, .int .i64 0, .int .i64 0, .string ⟨#[]⟩, .string ⟨#[]⟩, .string ⟨#[]⟩, .bool false, .int .i64 0, .string ⟨#[]⟩, .bool false, .slice none 0 0, .slice none 0 0]) := by kernel_rfl
@[simp] theorem zv112 : pureEval Tryz.prog (zeroValue 112) = some (.slice none 0 0) := by kernel_rfl
@[simp] theorem zv115 : pureEval Tryz.prog (zeroValue 115) = some (.agg #[.string ⟨#[]⟩, .int .i64 0, .int .i64 0, .int .i64 0, .string ⟨#[]⟩, .string ⟨#[]⟩, .string ⟨#[]⟩, .bool false, .int .i64 0, .string ⟨#[]⟩, .bool false, .slice none 0 0, .slice none 0 0, .string ⟨#[]⟩, .bool false]) := by kernel_rfl
@[simp] theorem zv128 : pureEval Tryz.prog (zeroValue 128) = some (.agg #[.slice none 0 0, .slice none 0 0, .string ⟨#[]⟩, .int .i64 0, .string ⟨#[]⟩]) := by kernel_rfl
@[simp] theorem zv135 : pureEval Tryz.prog (zeroValue 135) = some (.agg #[.int .i64 0, .int .i64 0, .int .u64 0, .slice none 0 0]) := by kernel_rfl
@[simp] theorem zv137 : pureEval Tryz.prog (zeroValue 137) = some (.nilFunc) := by kernel_rfl
@[simp] theorem zv141 : pureEval Tryz.prog (zeroValue 141) = some (.nilFunc) := by kernel_rfl
@[simp] theorem zv145 : pureEval Tryz.prog (zeroValue 145) = some (.nilFunc) := by kernel_rfl
@[simp] theorem zv146 : pureEval Tryz.prog (zeroValue 146) = some (.pointer none) := by kernel_rfl
@[simp] theorem zv151 : pureEval Tryz.prog (zeroValue 151) = some (.agg #[.int .i64 0]) := by kernel_rfl
@[simp] theorem zv154 : pureEval Tryz.prog (zeroValue 154) = some (.agg #[.pointer none]) := by kernel_rfl
@[simp] theorem zv165 : pureEval Tryz.prog (zeroValue 165) = some (.agg #[.string ⟨#[]⟩]) := by kernel_rfl
@[simp] theorem zv170 : pureEval Tryz.prog (zeroValue 170) = some (.agg #[.map none, .map none, .slice none 0 0]) := by kernel_rfl
@[simp] theorem zv177 : pureEval Tryz.prog (zeroValue 177) = some (.agg #[.int .i64 0, .string ⟨#[]⟩, .string ⟨#[]⟩, .slice none 0 0, .slice none 0 0, .slice none 0 0, .slice none 0 0, .slice none 0 0, .slice none 0 0, .slice none 0 0, .slice none 0 0, .slice none 0 0, .slice none 0 0, .string ⟨#[]⟩, .slice none 0 0, .slice none 0 0, .slice none 0 0, .string ⟨#[]⟩, .int .i64 0, .int .i64 0, .int .i64 0, .string ⟨#[]⟩, .string ⟨#[]⟩, .string ⟨#[]⟩, .bool false, .int .i64 0, .string ⟨#[]⟩, .bool false, .slice none 0 0, .slice none 0 0]) := by kernel_rfl
@[simp] theorem zv183 : pureEval Tryz.prog (zeroValue 183) = some (.agg #[.pointer none, .string ⟨#[]⟩, .string ⟨#[]⟩, .slice none 0 0, .slice none 0 0, .slice none 0 0, .slice none 0 0, .slice none 0 0, .slice none 0 0, .string ⟨#[]⟩, .slice none 0 0, .slice none 0 0, .slice none 0 0, .slice none 0 0, .int .i64 0, .string ⟨#[]⟩, .int .i64 0]) := by kernel_rfl
@[simp] theorem zv189 : pureEval Tryz.prog (zeroValue 189) = some (.nilFunc) := by kernel_rfl
@[simp] theorem zv191 : pureEval Tryz.prog (zeroValue 191) = some (.nilFunc) := by kernel_rfl
@[simp] theorem zv215 : pureEval Tryz.prog (zeroValue 215) = some (.agg #[.string ⟨#[]⟩, .slice none 0 0, .slice none 0 0]) := by kernel_rfl
@[simp] theorem zv217 : pureEval Tryz.prog (zeroValue 217) = some (.agg #[.string ⟨#[]⟩, .int .i64 0, .slice none 0 0, .slice none 0 0]) := by kernel_rfl
@[simp] theorem zv220 : pureEval Tryz.prog (zeroValue 220) = some (.agg #[.string ⟨#[]⟩, .slice none 0 0, .slice none 0 0, .slice none 0 0]) := by kernel_rfl
@[simp] theorem zv222 : pureEval Tryz.prog (zeroValue 222) = some (.agg #[.string ⟨#[]⟩, .string ⟨#[]⟩, .string ⟨#[]⟩, .bool false, .bool false, .slice none 0 0, .slice none 0 0]) := by kernel_rfl
@[simp] theorem zv247 : pureEval Tryz.prog (zeroValue 247) = some (.nilFunc) := by kernel_rfl
@[simp] theorem zv258 : pureEval Tryz.prog (zeroValue 258) = some (.nilFunc) := by kernel_rfl
@[simp] theorem zv261 : pureEval Tryz.prog (zeroValue 261) = some (.nilFunc) := by kernel_rfl
@[simp] theorem zv269 : pureEval Tryz.prog (zeroValue 269) = some (.agg #[.string ⟨#[]⟩, .slice none 0 0, .slice none 0 0]) := by kernel_rfl
@[simp] theorem zv273 : pureEval Tryz.prog (zeroValue 273) = some (.agg #[.int .i64 0, .int .i64 0]) := by kernel_rfl
@[simp] theorem zv279 : pureEval Tryz.prog (zeroValue 279) = some (.agg #[.string ⟨#[]⟩, .int .i64 0]) := by kernel_rfl
@[simp] theorem zv288 : pureEval Tryz.prog (zeroValue 288) = some (.agg #[.int .u64 0, .string ⟨#[]⟩]) := by kernel_rfl
@[simp] theorem zv353 : pureEval Tryz.prog (zeroValue 353) = some (.int .u64 0) := by kernel_rfl
@[simp] theorem zv365 : pureEval Tryz.prog (zeroValue 365) = some (.agg #[.int .i32 0, .int .i32 0, .int .i32 0, .int .i32 0, .int .i32 0]) := by kernel_rfl
@[simp] theorem fo26_0 : fieldOff Tryz.prog 26 0 = some 0 := by kernel_rfl
@[simp] theorem fo26_1 : fieldOff Tryz.prog 26 1 = some 1 := by kernel_rfl
@[simp] theorem fo28_0 : fieldOff Tryz.prog 28 0 = some 0 := by kernel_rfl
@[simp] theorem fo28_1 : fieldOff Tryz.prog 28 1 = some 1 := by kernel_rfl
@[simp] theorem fo28_2 : fieldOff Tryz.prog 28 2 = some 2 := by kernel_rfl
@[simp] theorem fo43_0 : fieldOff Tryz.prog 43 0 = some 0 := by kernel_rfl
@[simp] theorem fo43_1 : fieldOff Tryz.prog 43 1 = some 1 := by kernel_rfl
@[simp] theorem fo45_0 : fieldOff Tryz.prog 45 0 = some 0 := by kernel_rfl
@[simp] theorem fo45_1 : fieldOff Tryz.prog 45 1 = some 1 := by kernel_rfl
@[simp] theorem fo45_2 : fieldOff Tryz.prog 45 2 = some 2 := by kernel_rfl
@[simp] theorem fo45_3 : fieldOff Tryz.prog 45 3 = some 3 := by kernel_rfl
@[simp] theorem fo45_4 : fieldOff Tryz.prog 45 4 = some 4 := by kernel_rfl
@[simp] theorem fo45_5 : fieldOff Tryz.prog 45 5 = some 5 := by kernel_rfl
@[simp] theorem fo45_6 : fieldOff Tryz.prog 45 6 = some 6 := by kernel_rfl
@[simp] theorem fo45_7 : fieldOff Tryz.prog 45 7 = some 7 := by kernel_rfl
@[simp] theorem fo45_8 : fieldOff Tryz.prog 45 8 = some 8 := by kernel_rfl
@[simp] theorem fo45_9 : fieldOff Tryz.prog 45 9 = some 9 := by kernel_rfl
@[simp] theorem fo45_10 : fieldOff Tryz.prog 45 10 = some 10 := by kernel_rfl
@[simp] theorem fo45_11 : fieldOff Tryz.prog 45 11 = some 11 := by kernel_rfl
@[simp] theorem fo45_12 : fieldOff Tryz.prog 45 12 = some 12 := by kernel_rfl
@[simp] theorem fo47_0 : fieldOff Tryz.prog 47 0 = some 0 := by kernel_rfl
@[simp] theorem fo47_1 : fieldOff Tryz.prog 47 1 = some 13 := by kernel_rfl
@[simp] theorem fo47_2 : fieldOff Tryz.prog 47 2 = some 14 := by kernel_rfl
@[simp] theorem fo61_0 : fieldOff Tryz.prog 61 0 = some 0 := by kernel_rfl
@[simp] theorem fo61_1 : fieldOff Tryz.prog 61 1 = some 1 := by kernel_rfl
@[simp] theorem fo61_2 : fieldOff Tryz.prog 61 2 = some 2 := by kernel_rfl
@[simp] theorem fo61_3 : fieldOff Tryz.prog 61 3 = some 3 := by kernel_rfl
@[simp] theorem fo61_4 : fieldOff Tryz.prog 61 4 = some 4 := by kernel_rfl
@[simp] theorem fo61_5 : fieldOff Tryz.prog 61 5 = some 5 := by kernel_rfl
@[simp] theorem fo61_6 : fieldOff Tryz.prog 61 6 = some 6 := by kernel_rfl
@[simp] theorem fo61_7 : fieldOff Tryz.prog 61 7 = some 7 := by kernel_rfl
@[simp] theorem fo61_8 : fieldOff Tryz.prog 61 8 = some 8 := by kernel_rfl
@[simp] theorem fo61_9 : fieldOff Tryz.prog 61 9 = some 9 := by kernel_rfl
@[simp] theorem fo61_10 : fieldOff Tryz.prog 61 10 = some 10 := by kernel_rfl
@[simp] theorem fo84_0 : fieldOff Tryz.prog 84 0 = some 0 := by kernel_rfl
@[simp] theorem fo84_1 : fieldOff Tryz.prog 84 1 = some 1 := by kernel_rfl
@[simp] theorem fo84_2 : fieldOff Tryz.prog 84 2 = some 2 := by kernel_rfl
@[simp] theorem fo84_3 : fieldOff Tryz.prog 84 3 = some 3 := by kernel_rfl
@[simp] theorem fo84_4 : fieldOff Tryz.prog 84 4 = some 4 := by kernel_rfl
@[simp] theorem fo84_5 : fieldOff Tryz.prog 84 5 = some 5 := by kernel_rfl
@[simp] theorem fo84_6 : fieldOff Tryz.prog 84 6 = some 6 := by kernel_rfl
@[simp] theorem fo84_7 : fieldOff Tryz.prog 84 7 = some 7 := by kernel_rfl
@[simp] theorem fo84_8 : fieldOff Tryz.prog 84 8 = some 8 := by kernel_rfl
@[simp] theorem fo84_9 : fieldOff Tryz.prog 84 9 = some 9 := by kernel_rfl
@[simp] theorem fo84_10 : fieldOff Tryz.prog 84 10 = some 10 := by kernel_rfl
@[simp] theorem fo102_0 : fieldOff Tryz.prog 102 0 = some 0 := by kernel_rfl
@[simp] theorem fo106_0 : fieldOff Tryz.prog 106 0 = some 0 := by kernel_rfl
@[simp] theorem fo106_1 : fieldOff Tryz.prog 106 1 = some 1 := by kernel_rfl
@[simp] theorem fo106_2 : fieldOff Tryz.prog 106 2 = some 2 := by kernel_rfl
@[simp] theorem fo106_3 : fieldOff Tryz.prog 106 3 = some 3 := by kernel_rfl
@[simp] theorem fo108_0 : fieldOff Tryz.prog 108 0 = some 0 := by kernel_rfl
@[simp] theorem fo108_1 : fieldOff Tryz.prog 108 1 = some 1 := by kernel_rfl
@[simp] theorem fo108_2 : fieldOff Tryz.prog 108 2 = some 2 := by kernel_rfl
@[simp] theorem fo108_3 : fieldOff Tryz.prog 108 3 = some 3 := by kernel_rfl
@[simp] theorem fo108_4 : fieldOff Tryz.prog 108 4 = some 14 := by kernel_rfl
@[simp] theorem fo108_5 : fieldOff Tryz.prog 108 5 = some 18 := by kernel_rfl
@[simp] theorem fo115_0 : fieldOff Tryz.prog 115 0 = some 0 := by kernel_rfl
@[simp] theorem fo115_1 : fieldOff Tryz.prog 115 1 = some 13 := by kernel_rfl
@[simp] theorem fo115_2 : fieldOff Tryz.prog 115 2 = some 14 := by kernel_rfl
@[simp] theorem fo128_0 : fieldOff Tryz.prog 128 0 = some 0 := by kernel_rfl
@[simp] theorem fo128_1 : fieldOff Tryz.prog 128 1 = some 1 := by kernel_rfl
@[simp] theorem fo128_2 : fieldOff Tryz.prog 128 2 = some 2 := by kernel_rfl
@[simp] theorem fo128_3 : fieldOff Tryz.prog 128 3 = some 3 := by kernel_rfl
@[simp] theorem fo128_4 : fieldOff Tryz.prog 128 4 = some 4 := by kernel_rfl
@[simp] theorem fo135_0 : fieldOff Tryz.prog 135 0 = some 0 := by kernel_rfl
@[simp] theorem fo135_1 : fieldOff Tryz.prog 135 1 = some 1 := by kernel_rfl
@[simp] theorem fo135_2 : fieldOff Tryz.prog 135 2 = some 2 := by kernel_rfl
@[simp] theorem fo135_3 : fieldOff Tryz.prog 135 3 = some 3 := by kernel_rfl
@[simp] theorem fo151_0 : fieldOff Tryz.prog 151 0 = some 0 := by kernel_rfl
@[simp] theorem fo154_0 : fieldOff Tryz.prog 154 0 = some 0 := by kernel_rfl
@[simp] theorem fo165_0 : fieldOff Tryz.prog 165 0 = some 0 := by kernel_rfl
@[simp] theorem fo170_0 : fieldOff Tryz.prog 170 0 = some 0 := by kernel_rfl
@[simp] theorem fo170_1 : fieldOff Tryz.prog 170 1 = some 1 := by kernel_rfl
@[simp] theorem fo170_2 : fieldOff Tryz.prog 170 2 = some 2 := by kernel_rfl
@[simp] theorem fo177_0 : fieldOff Tryz.prog 177 0 = some 0 := by kernel_rfl
@[simp] theorem fo177_1 : fieldOff Tryz.prog 177 1 = some 1 := by kernel_rfl
@[simp] theorem fo177_2 : fieldOff Tryz.prog 177 2 = some 2 := by kernel_rfl
@[simp] theorem fo177_3 : fieldOff Tryz.prog 177 3 = some 13 := by kernel_rfl
@[simp] theorem fo177_4 : fieldOff Tryz.prog 177 4 = some 17 := by kernel_rfl
@[simp] theorem fo183_0 : fieldOff Tryz.prog 183 0 = some 0 := by kernel_rfl
@[simp] theorem fo183_1 : fieldOff Tryz.prog 183 1 = some 1 := by kernel_rfl
@[simp] theorem fo183_2 : fieldOff Tryz.prog 183 2 = some 12 := by kernel_rfl
@[simp] theorem fo183_3 : fieldOff Tryz.prog 183 3 = some 13 := by kernel_rfl
@[simp] theorem fo183_4 : fieldOff Tryz.prog 183 4 = some 14 := by kernel_rfl
@[simp] theorem fo183_5 : fieldOff Tryz.prog 183 5 = some 15 := by kernel_rfl
@[simp] theorem fo183_6 : fieldOff Tryz.prog 183 6 = some 16 := by kernel_rfl
@[simp] theorem fo215_0 : fieldOff Tryz.prog 215 0 = some 0 := by kernel_rfl
@[simp] theorem fo215_1 : fieldOff Tryz.prog 215 1 = some 1 := by kernel_rfl
@[simp] theorem fo215_2 : fieldOff Tryz.prog 215 2 = some 2 := by kernel_rfl
@[simp] theorem fo217_0 : fieldOff Tryz.prog 217 0 = some 0 := by kernel_rfl
@[simp] theorem fo217_1 : fieldOff Tryz.prog 217 1 = some 1 := by kernel_rfl
@[simp] theorem fo217_2 : fieldOff Tryz.prog 217 2 = some 2 := by kernel_rfl
@[simp] theorem fo217_3 : fieldOff Tryz.prog 217 3 = some 3 := by kernel_rfl
@[simp] theorem fo220_0 : fieldOff Tryz.prog 220 0 = some 0 := by kernel_rfl
@[simp] theorem fo220_1 : fieldOff Tryz.prog 220 1 = some 1 := by kernel_rfl
@[simp] theorem fo220_2 : fieldOff Tryz.prog 220 2 = some 2 := by kernel_rfl
@[simp] theorem fo220_3 : fieldOff Tryz.prog 220 3 = some 3 := by kernel_rfl
@[simp] theorem fo222_0 : fieldOff Tryz.prog 222 0 = some 0 := by kernel_rfl
@[simp] theorem fo222_1 : fieldOff Tryz.prog 222 1 = some 1 := by kernel_rfl
@[simp] theorem fo222_2 : fieldOff Tryz.prog 222 2 = some 2 := by kernel_rfl
@[simp] theorem fo222_3 : fieldOff Tryz.prog 222 3 = some 3 := by kernel_rfl
@[simp] theorem fo222_4 : fieldOff Tryz.prog 222 4 = some 4 := by kernel_rfl
@[simp] theorem fo222_5 : fieldOff Tryz.prog 222 5 = some 5 := by kernel_rfl
@[simp] theorem fo222_6 : fieldOff Tryz.prog 222 6 = some 6 := by kernel_rfl
@[simp] theorem fo269_0 : fieldOff Tryz.prog 269 0 = some 0 := by kernel_rfl
@[simp] theorem fo269_1 : fieldOff Tryz.prog 269 1 = some 1 := by kernel_rfl
@[simp] theorem fo269_2 : fieldOff Tryz.prog 269 2 = some 2 := by kernel_rfl
@[simp] theorem fo273_0 : fieldOff Tryz.prog 273 0 = some 0 := by kernel_rfl
@[simp] theorem fo273_1 : fieldOff Tryz.prog 273 1 = some 1 := by kernel_rfl
@[simp] theorem fo279_0 : fieldOff Tryz.prog 279 0 = some 0 := by kernel_rfl
@[simp] theorem fo279_1 : fieldOff Tryz.prog 279 1 = some 1 := by kernel_rfl
@[simp] theorem pl26 : placesOf Tryz.prog 26 = some #[(0, 1), (1, 1)] := by kernel_rfl
@[simp] theorem pl28 : placesOf Tryz.prog 28 = some #[(0, 1), (1, 1), (2, 2)] := by kernel_rfl
@[simp] theorem pl43 : placesOf Tryz.prog 43 = some #[(0, 1), (1, 1)] := by kernel_rfl
@[simp] theorem pl45 : placesOf Tryz.prog 45 = some #[(0, 1), (1, 1), (2, 1), (3, 1), (4, 1), (5, 1), (6, 1), (7, 1), (8, 1), (9, 1), (10, 1), (11, 1), (12, 1)] := by kernel_rfl
@[simp] theorem pl47 : placesOf Tryz.prog 47 = some #[(0, 13), (13, 1), (14, 1)] := by kernel_rfl
@[simp] theorem pl61 : placesOf Tryz.prog 61 = some #[(0, 1), (1, 1), (2, 1), (3, 1), (4, 1), (5, 1), (6, 1), (7, 1), (8, 1), (9, 1), (10, 1)] := by kernel_rfl
@[simp] theorem pl84 : placesOf Tryz.prog 84 = some #[(0, 1), (1, 1), (2, 1), (3, 1), (4, 1), (5, 1), (6, 1), (7, 1), (8, 1), (9, 1), (10, 1)] := by kernel_rfl
@[simp] theorem pl102 : placesOf Tryz.prog 102 = some #[(0, 1)] := by kernel_rfl
@[simp] theorem pl108 : placesOf Tryz.prog 108 = some #[(0, 1), (1, 1), (2, 1), (3, 11), (14, 4), (18, 13)] := by kernel_rfl
@[simp] theorem pl115 : placesOf Tryz.prog 115 = some #[(0, 13), (13, 1), (14, 1)] := by kernel_rfl
@[simp] theorem pl128 : placesOf Tryz.prog 128 = some #[(0, 1), (1, 1), (2, 1), (3, 1), (4, 1)] := by kernel_rfl
@[simp] theorem pl135 : placesOf Tryz.prog 135 = some #[(0, 1), (1, 1), (2, 1), (3, 1)] := by kernel_rfl
@[simp] theorem pl151 : placesOf Tryz.prog 151 = some #[(0, 1)] := by kernel_rfl
@[simp] theorem pl154 : placesOf Tryz.prog 154 = some #[(0, 1)] := by kernel_rfl
@[simp] theorem pl165 : placesOf Tryz.prog 165 = some #[(0, 1)] := by kernel_rfl
@[simp] theorem pl170 : placesOf Tryz.prog 170 = some #[(0, 1), (1, 1), (2, 1)] := by kernel_rfl
@[simp] theorem pl177 : placesOf Tryz.prog 177 = some #[(0, 1), (1, 1), (2, 11), (13, 4), (17, 13)] := by kernel_rfl
@[simp] theorem pl183 : placesOf Tryz.prog 183 = some #[(0, 1), (1, 11), (12, 1), (13, 1), (14, 1), (15, 1), (16, 1)] := by kernel_rfl
@[simp] theorem pl269 : placesOf Tryz.prog 269 = some #[(0, 1), (1, 1), (2, 1)] := by kernel_rfl
@[simp] theorem pl279 : placesOf Tryz.prog 279 = some #[(0, 1), (1, 1)] := by kernel_rfl
@[simp] theorem pl288 : placesOf Tryz.prog 288 = some #[(0, 1), (1, 1)] := by kernel_rfl
@[simp] theorem ap23_23 : appTT Tryz.prog 23 23 = some (1, 1) := by kernel_rfl
@[simp] theorem ap24_24 : appTT Tryz.prog 24 24 = some (2, 32) := by kernel_rfl
@[simp] theorem ap32_32 : appTT Tryz.prog 32 32 = some (11, 240) := by kernel_rfl
@[simp] theorem ap38_38 : appTT Tryz.prog 38 38 = some (15, 200) := by kernel_rfl
@[simp] theorem ap40_40 : appTT Tryz.prog 40 40 = some (1, 16) := by kernel_rfl
@[simp] theorem ap41_41 : appTT Tryz.prog 41 41 = some (4, 80) := by kernel_rfl
@[simp] theorem ap53_53 : appTT Tryz.prog 53 53 = some (13, 176) := by kernel_rfl
@[simp] theorem ap56_56 : appTT Tryz.prog 56 56 = some (1, 8) := by kernel_rfl
@[simp] theorem ap57_57 : appTT Tryz.prog 57 57 = some (11, 256) := by kernel_rfl
@[simp] theorem ap58_58 : appTT Tryz.prog 58 58 = some (4, 88) := by kernel_rfl
@[simp] theorem ap59_59 : appTT Tryz.prog 59 59 = some (4, 88) := by kernel_rfl
@[simp] theorem ap81_81 : appTT Tryz.prog 81 81 = some (2, 16) := by kernel_rfl
@[simp] theorem ap82_82 : appTT Tryz.prog 82 82 = some (3, 64) := by kernel_rfl
@[simp] theorem ap85_85 : appTT Tryz.prog 85 85 = some (4, 48) := by kernel_rfl
@[simp] theorem ap104_104 : appTT Tryz.prog 104 104 = some (4, 72) := by kernel_rfl
@[simp] theorem ap112_112 : appTT Tryz.prog 112 112 = some (15, 200) := by kernel_rfl
@[simp] theorem ap126_126 : appTT Tryz.prog 126 126 = some (31, 560) := by kernel_rfl
@[simp] theorem ap181_181 : appTT Tryz.prog 181 181 = some (2, 24) := by kernel_rfl
@[simp] theorem ap185_185 : appTT Tryz.prog 185 185 = some (3, 64) := by kernel_rfl
@[simp] theorem ap218_218 : appTT Tryz.prog 218 218 = some (7, 104) := by kernel_rfl

end Go.Proofs.YtiipaliigpkfhaaGreat.Ab
