/- YtfoenhiohhmnlaaGreatDoorM6 -/
import Derived.Test.YtfoenhiohhmnlaaGreatDoorM5
import Derived.Test.YtfoenhiohhmnlaaGreatDoorProg
import Derived.Lib.ItoaLen
import Derived.Lib.Join
import Derived.ChangeArms
import Derived.OpenShut
import Derived.ChangeShapes
import Derived.SizedLaws
import Derived.Carry
import Derived.Lib.LaidTab
import Derived.Shelf.Small.Strs
import Derived.Shelf.Strings.Split
import Derived.Shelf.LaysM
import Derived.Shelf.Strings.OnBuilder
import Derived.Shelf.Strconv.Itoa3
namespace Go.Proofs.YtfoenhiohhmnlaaGreatDoor.Ix
open Go.Proofs
def T (t : Nat) : Ty := match Nat.blt t 225 with
 | false => Ty.none
 | true => (match Nat.ble 113 t with
 | true => (match Nat.ble 166 t with
 | true => (match Nat.ble 196 t with
 | true => (match Nat.ble 209 t with
 | true => (match Nat.ble 218 t with
 | true => (match Nat.ble 221 t with
 | true => (match Nat.ble 223 t with
 | true => (match Nat.ble 224 t with
 | true => (match Nat.beq t 224 with | true => ⟨11, 48, true, [.int .u64 0, .int .u64 0, .int .u32 0, .int .u8 0, .int .u8 0, .int .u8 0, .int .u8 0, .lit .nilFunc, .lit (.pointer none), .int .i32 0, .int .i32 0], [], .struct [(0, 1, false), (1, 1, false), (2, 1, false), (3, 1, false), (4, 1, false), (5, 1, false), (6, 1, false), (7, 1, false), (8, 1, false), (9, 1, false), (10, 1, false)]⟩ | false => Ty.none)
 | false => (match Nat.beq t 223 with | true => ⟨11, 48, true, [.int .u64 0, .int .u64 0, .int .u32 0, .int .u8 0, .int .u8 0, .int .u8 0, .int .u8 0, .lit .nilFunc, .lit (.pointer none), .int .i32 0, .int .i32 0], [], .struct [(0, 1, false), (1, 1, false), (2, 1, false), (3, 1, false), (4, 1, false), (5, 1, false), (6, 1, false), (7, 1, false), (8, 1, false), (9, 1, false), (10, 1, false)]⟩ | false => Ty.none))
 | false => (match Nat.ble 222 t with
 | true => (match Nat.beq t 222 with | true => ⟨1, 4, false, [.int .i32 0], [], .other⟩ | false => Ty.none)
 | false => (match Nat.beq t 221 with | true => ⟨1, 4, false, [.int .i32 0], [], .other⟩ | false => Ty.none)))
 | false => (match Nat.ble 219 t with
 | true => (match Nat.ble 220 t with
 | true => (match Nat.beq t 220 with | true => ⟨1, 8, false, [.lit .nilFunc], [], .other⟩ | false => Ty.none)
 | false => (match Nat.beq t 219 with | true => ⟨1, 1, false, [.int .u8 0], [], .other⟩ | false => Ty.none))
 | false => (match Nat.beq t 218 with | true => ⟨1, 1, false, [.int .u8 0], [], .other⟩ | false => Ty.none)))
 | false => (match Nat.ble 212 t with
 | true => (match Nat.ble 213 t with
 | true => (match Nat.ble 214 t with
 | true => (match Nat.beq t 214 with | true => ⟨4, 40, true, [.lit (.pointer none), .lit (.pointer none), .lit (.pointer none), .str ByteArray.empty], [], .struct [(0, 1, false), (1, 1, false), (2, 1, false), (3, 1, false)]⟩ | false => Ty.none)
 | false => (match Nat.beq t 213 with | true => ⟨4, 40, true, [.lit (.pointer none), .lit (.pointer none), .lit (.pointer none), .str ByteArray.empty], [], .struct [(0, 1, false), (1, 1, false), (2, 1, false), (3, 1, false)]⟩ | false => Ty.none))
 | false => (match Nat.beq t 212 with | true => ⟨64, 64, true, [.int .u8 0, .int .u8 0, .int .u8 0, .int .u8 0, .int .u8 0, .int .u8 0, .int .u8 0, .int .u8 0, .int .u8 0, .int .u8 0, .int .u8 0, .int .u8 0, .int .u8 0, .int .u8 0, .int .u8 0, .int .u8 0, .int .u8 0, .int .u8 0, .int .u8 0, .int .u8 0, .int .u8 0, .int .u8 0, .int .u8 0, .int .u8 0, .int .u8 0, .int .u8 0, .int .u8 0, .int .u8 0, .int .u8 0, .int .u8 0, .int .u8 0, .int .u8 0, .int .u8 0, .int .u8 0, .int .u8 0, .int .u8 0, .int .u8 0, .int .u8 0, .int .u8 0, .int .u8 0, .int .u8 0, .int .u8 0, .int .u8 0, .int .u8 0, .int .u8 0, .int .u8 0, .int .u8 0, .int .u8 0, .int .u8 0, .int .u8 0, .int .u8 0, .int .u8 0, .int .u8 0, .int .u8 0, .int .u8 0, .int .u8 0, .int .u8 0, .int .u8 0, .int .u8 0, .int .u8 0, .int .u8 0, .int .u8 0, .int .u8 0, .int .u8 0], [.int, .int, .int, .int, .int, .int, .int, .int, .int, .int, .int, .int, .int, .int, .int, .int, .int, .int, .int, .int, .int, .int, .int, .int, .int, .int, .int, .int, .int, .int, .int, .int, .int, .int, .int, .int, .int, .int, .int, .int, .int, .int, .int, .int, .int, .int, .int, .int, .int, .int, .int, .int, .int, .int, .int, .int, .int, .int, .int, .int, .int, .int, .int, .int], .array 64 5⟩ | false => Ty.none))
 | false => (match Nat.ble 210 t with
 | true => (match Nat.ble 211 t with
 | true => (match Nat.beq t 211 with | true => ⟨32, 32, true, [.int .u8 0, .int .u8 0, .int .u8 0, .int .u8 0, .int .u8 0, .int .u8 0, .int .u8 0, .int .u8 0, .int .u8 0, .int .u8 0, .int .u8 0, .int .u8 0, .int .u8 0, .int .u8 0, .int .u8 0, .int .u8 0, .int .u8 0, .int .u8 0, .int .u8 0, .int .u8 0, .int .u8 0, .int .u8 0, .int .u8 0, .int .u8 0, .int .u8 0, .int .u8 0, .int .u8 0, .int .u8 0, .int .u8 0, .int .u8 0, .int .u8 0, .int .u8 0], [.int, .int, .int, .int, .int, .int, .int, .int, .int, .int, .int, .int, .int, .int, .int, .int, .int, .int, .int, .int, .int, .int, .int, .int, .int, .int, .int, .int, .int, .int, .int, .int], .array 32 5⟩ | false => Ty.none)
 | false => (match Nat.beq t 210 with | true => ⟨1, 8, false, [.lit .nilFunc], [], .other⟩ | false => Ty.none))
 | false => (match Nat.beq t 209 with | true => ⟨1, 8, false, [.lit .nilFunc], [], .other⟩ | false => Ty.none))))
 | false => (match Nat.ble 203 t with
 | true => (match Nat.ble 206 t with
 | true => (match Nat.ble 207 t with
 | true => (match Nat.ble 208 t with
 | true => (match Nat.beq t 208 with | true => ⟨65, 65, true, [.int .u8 0, .int .u8 0, .int .u8 0, .int .u8 0, .int .u8 0, .int .u8 0, .int .u8 0, .int .u8 0, .int .u8 0, .int .u8 0, .int .u8 0, .int .u8 0, .int .u8 0, .int .u8 0, .int .u8 0, .int .u8 0, .int .u8 0, .int .u8 0, .int .u8 0, .int .u8 0, .int .u8 0, .int .u8 0, .int .u8 0, .int .u8 0, .int .u8 0, .int .u8 0, .int .u8 0, .int .u8 0, .int .u8 0, .int .u8 0, .int .u8 0, .int .u8 0, .int .u8 0, .int .u8 0, .int .u8 0, .int .u8 0, .int .u8 0, .int .u8 0, .int .u8 0, .int .u8 0, .int .u8 0, .int .u8 0, .int .u8 0, .int .u8 0, .int .u8 0, .int .u8 0, .int .u8 0, .int .u8 0, .int .u8 0, .int .u8 0, .int .u8 0, .int .u8 0, .int .u8 0, .int .u8 0, .int .u8 0, .int .u8 0, .int .u8 0, .int .u8 0, .int .u8 0, .int .u8 0, .int .u8 0, .int .u8 0, .int .u8 0, .int .u8 0, .int .u8 0], [.int, .int, .int, .int, .int, .int, .int, .int, .int, .int, .int, .int, .int, .int, .int, .int, .int, .int, .int, .int, .int, .int, .int, .int, .int, .int, .int, .int, .int, .int, .int, .int, .int, .int, .int, .int, .int, .int, .int, .int, .int, .int, .int, .int, .int, .int, .int, .int, .int, .int, .int, .int, .int, .int, .int, .int, .int, .int, .int, .int, .int, .int, .int, .int, .int], .array 65 5⟩ | false => Ty.none)
 | false => (match Nat.beq t 207 with | true => ⟨20, 160, true, [.int .u64 0, .int .u64 0, .int .u64 0, .int .u64 0, .int .u64 0, .int .u64 0, .int .u64 0, .int .u64 0, .int .u64 0, .int .u64 0, .int .u64 0, .int .u64 0, .int .u64 0, .int .u64 0, .int .u64 0, .int .u64 0, .int .u64 0, .int .u64 0, .int .u64 0, .int .u64 0], [.int, .int, .int, .int, .int, .int, .int, .int, .int, .int, .int, .int, .int, .int, .int, .int, .int, .int, .int, .int], .array 20 180⟩ | false => Ty.none))
 | false => (match Nat.beq t 206 with | true => ⟨1, 8, false, [.lit .nilFunc], [], .other⟩ | false => Ty.none))
 | false => (match Nat.ble 204 t with
 | true => (match Nat.ble 205 t with
 | true => (match Nat.beq t 205 with | true => ⟨1, 16, true, [.str ByteArray.empty], [.str], .struct [(0, 1, false)]⟩ | false => Ty.none)
 | false => (match Nat.beq t 204 with | true => ⟨1, 16, true, [.str ByteArray.empty], [.str], .struct [(0, 1, false)]⟩ | false => Ty.none))
 | false => (match Nat.beq t 203 with | true => ⟨1, 8, false, [.lit (.pointer none)], [], .other⟩ | false => Ty.none)))
 | false => (match Nat.ble 199 t with
 | true => (match Nat.ble 201 t with
 | true => (match Nat.ble 202 t with
 | true => (match Nat.beq t 202 with | true => ⟨1, 8, false, [.lit .nilFunc], [], .other⟩ | false => Ty.none)
 | false => (match Nat.beq t 201 with | true => ⟨1, 8, false, [.lit .nilFunc], [], .other⟩ | false => Ty.none))
 | false => (match Nat.beq t 199 with | true => ⟨1, 4, false, [.int .u32 0], [], .other⟩ | false => Ty.none))
 | false => (match Nat.ble 197 t with
 | true => (match Nat.ble 198 t with
 | true => (match Nat.beq t 198 with | true => ⟨32, 32, true, [.int .u8 0, .int .u8 0, .int .u8 0, .int .u8 0, .int .u8 0, .int .u8 0, .int .u8 0, .int .u8 0, .int .u8 0, .int .u8 0, .int .u8 0, .int .u8 0, .int .u8 0, .int .u8 0, .int .u8 0, .int .u8 0, .int .u8 0, .int .u8 0, .int .u8 0, .int .u8 0, .int .u8 0, .int .u8 0, .int .u8 0, .int .u8 0, .int .u8 0, .int .u8 0, .int .u8 0, .int .u8 0, .int .u8 0, .int .u8 0, .int .u8 0, .int .u8 0], [.int, .int, .int, .int, .int, .int, .int, .int, .int, .int, .int, .int, .int, .int, .int, .int, .int, .int, .int, .int, .int, .int, .int, .int, .int, .int, .int, .int, .int, .int, .int, .int], .array 16 197⟩ | false => Ty.none)
 | false => (match Nat.beq t 197 with | true => ⟨2, 2, true, [.int .u8 0, .int .u8 0], [.int, .int], .struct [(0, 1, false), (1, 1, false)]⟩ | false => Ty.none))
 | false => (match Nat.beq t 196 with | true => ⟨2, 2, true, [.int .u8 0, .int .u8 0], [.int, .int], .struct [(0, 1, false), (1, 1, false)]⟩ | false => Ty.none)))))
 | false => (match Nat.ble 180 t with
 | true => (match Nat.ble 187 t with
 | true => (match Nat.ble 191 t with
 | true => (match Nat.ble 193 t with
 | true => (match Nat.ble 194 t with
 | true => (match Nat.beq t 194 with | true => ⟨1, 8, false, [.lit .nilFunc], [], .other⟩ | false => Ty.none)
 | false => (match Nat.beq t 193 with | true => ⟨1, 8, false, [.lit .nilFunc], [], .other⟩ | false => Ty.none))
 | false => (match Nat.ble 192 t with
 | true => (match Nat.beq t 192 with | true => ⟨1, 8, false, [.lit (.pointer none)], [], .other⟩ | false => Ty.none)
 | false => (match Nat.beq t 191 with | true => ⟨1, 8, false, [.lit .nilFunc], [], .other⟩ | false => Ty.none)))
 | false => (match Nat.ble 188 t with
 | true => (match Nat.ble 189 t with
 | true => (match Nat.beq t 189 with | true => ⟨1, 8, false, [.lit .nilFunc], [], .other⟩ | false => Ty.none)
 | false => (match Nat.beq t 188 with | true => ⟨1, 8, false, [.lit .nilFunc], [], .other⟩ | false => Ty.none))
 | false => (match Nat.beq t 187 with | true => ⟨24, 24, true, [.int .u8 0, .int .u8 0, .int .u8 0, .int .u8 0, .int .u8 0, .int .u8 0, .int .u8 0, .int .u8 0, .int .u8 0, .int .u8 0, .int .u8 0, .int .u8 0, .int .u8 0, .int .u8 0, .int .u8 0, .int .u8 0, .int .u8 0, .int .u8 0, .int .u8 0, .int .u8 0, .int .u8 0, .int .u8 0, .int .u8 0, .int .u8 0], [.int, .int, .int, .int, .int, .int, .int, .int, .int, .int, .int, .int, .int, .int, .int, .int, .int, .int, .int, .int, .int, .int, .int, .int], .array 24 5⟩ | false => Ty.none)))
 | false => (match Nat.ble 184 t with
 | true => (match Nat.ble 185 t with
 | true => (match Nat.ble 186 t with
 | true => (match Nat.beq t 186 with | true => ⟨1, 8, false, [.lit .nilFunc], [], .other⟩ | false => Ty.none)
 | false => (match Nat.beq t 185 with | true => ⟨3, 48, true, [.str ByteArray.empty, .str ByteArray.empty, .lit .nilIface], [], .struct [(0, 1, false), (1, 1, false), (2, 1, false)]⟩ | false => Ty.none))
 | false => (match Nat.beq t 184 with | true => ⟨3, 48, true, [.str ByteArray.empty, .str ByteArray.empty, .lit .nilIface], [], .struct [(0, 1, false), (1, 1, false), (2, 1, false)]⟩ | false => Ty.none))
 | false => (match Nat.ble 182 t with
 | true => (match Nat.ble 183 t with
 | true => (match Nat.beq t 183 with | true => ⟨1, 8, false, [.lit .nilFunc], [], .other⟩ | false => Ty.none)
 | false => (match Nat.beq t 182 with | true => ⟨1, 8, false, [.lit .nilFunc], [], .other⟩ | false => Ty.none))
 | false => (match Nat.beq t 180 with | true => ⟨1, 8, false, [.int .u64 0], [], .other⟩ | false => Ty.none))))
 | false => (match Nat.ble 174 t with
 | true => (match Nat.ble 177 t with
 | true => (match Nat.ble 178 t with
 | true => (match Nat.ble 179 t with
 | true => (match Nat.beq t 179 with | true => ⟨1, 8, false, [.int .u64 0], [], .other⟩ | false => Ty.none)
 | false => (match Nat.beq t 178 with | true => ⟨1, 8, false, [.lit (.pointer none)], [], .other⟩ | false => Ty.none))
 | false => (match Nat.beq t 177 with | true => ⟨1, 8, false, [.lit .nilFunc], [], .other⟩ | false => Ty.none))
 | false => (match Nat.ble 175 t with
 | true => (match Nat.ble 176 t with
 | true => (match Nat.beq t 176 with | true => ⟨1, 8, false, [.lit .nilFunc], [], .other⟩ | false => Ty.none)
 | false => (match Nat.beq t 175 with | true => ⟨1, 8, false, [.lit .nilFunc], [], .other⟩ | false => Ty.none))
 | false => (match Nat.beq t 174 with | true => ⟨1, 8, false, [.lit (.pointer none)], [], .other⟩ | false => Ty.none)))
 | false => (match Nat.ble 170 t with
 | true => (match Nat.ble 171 t with
 | true => (match Nat.ble 173 t with
 | true => (match Nat.beq t 173 with | true => ⟨1, 8, false, [.lit .nilFunc], [], .other⟩ | false => Ty.none)
 | false => (match Nat.beq t 171 with | true => ⟨1, 8, false, [.int .i64 0], [], .other⟩ | false => Ty.none))
 | false => (match Nat.beq t 170 with | true => ⟨1, 8, false, [.lit .nilFunc], [], .other⟩ | false => Ty.none))
 | false => (match Nat.ble 167 t with
 | true => (match Nat.ble 168 t with
 | true => (match Nat.beq t 168 with | true => ⟨1, 8, false, [.lit .nilFunc], [], .other⟩ | false => Ty.none)
 | false => (match Nat.beq t 167 with | true => ⟨1, 8, false, [.lit .nilFunc], [], .other⟩ | false => Ty.none))
 | false => (match Nat.beq t 166 with | true => ⟨1, 8, false, [.lit .nilFunc], [], .other⟩ | false => Ty.none))))))
 | false => (match Nat.ble 140 t with
 | true => (match Nat.ble 153 t with
 | true => (match Nat.ble 159 t with
 | true => (match Nat.ble 162 t with
 | true => (match Nat.ble 164 t with
 | true => (match Nat.ble 165 t with
 | true => (match Nat.beq t 165 with | true => ⟨1, 8, false, [.lit .nilFunc], [], .other⟩ | false => Ty.none)
 | false => (match Nat.beq t 164 with | true => ⟨1, 8, false, [.lit .nilFunc], [], .other⟩ | false => Ty.none))
 | false => (match Nat.ble 163 t with
 | true => (match Nat.beq t 163 with | true => ⟨2, 32, true, [.lit (.pointer none), .nilS], [], .struct [(0, 1, false), (1, 1, false)]⟩ | false => Ty.none)
 | false => (match Nat.beq t 162 with | true => ⟨2, 32, true, [.lit (.pointer none), .nilS], [], .struct [(0, 1, false), (1, 1, false)]⟩ | false => Ty.none)))
 | false => (match Nat.ble 160 t with
 | true => (match Nat.ble 161 t with
 | true => (match Nat.beq t 161 with | true => ⟨1, 24, false, [.nilS], [], .slice 5⟩ | false => Ty.none)
 | false => (match Nat.beq t 160 with | true => ⟨1, 8, false, [.lit (.pointer none)], [], .other⟩ | false => Ty.none))
 | false => (match Nat.beq t 159 with | true => ⟨1, 8, false, [.lit .nilFunc], [], .other⟩ | false => Ty.none)))
 | false => (match Nat.ble 156 t with
 | true => (match Nat.ble 157 t with
 | true => (match Nat.ble 158 t with
 | true => (match Nat.beq t 158 with | true => ⟨1, 8, false, [.lit .nilFunc], [], .other⟩ | false => Ty.none)
 | false => (match Nat.beq t 157 with | true => ⟨1, 8, false, [.lit .nilFunc], [], .other⟩ | false => Ty.none))
 | false => (match Nat.beq t 156 with | true => ⟨1, 8, false, [.lit .nilFunc], [], .other⟩ | false => Ty.none))
 | false => (match Nat.ble 154 t with
 | true => (match Nat.ble 155 t with
 | true => (match Nat.beq t 155 with | true => ⟨1, 8, false, [.lit .nilFunc], [], .other⟩ | false => Ty.none)
 | false => (match Nat.beq t 154 with | true => ⟨6, 48, true, [.int .i64 0, .int .i64 0, .int .i64 0, .int .i64 0, .int .i64 0, .int .i64 0], [.int, .int, .int, .int, .int, .int], .array 3 66⟩ | false => Ty.none))
 | false => (match Nat.beq t 153 with | true => ⟨1, 8, false, [.lit .nilFunc], [], .other⟩ | false => Ty.none))))
 | false => (match Nat.ble 147 t with
 | true => (match Nat.ble 150 t with
 | true => (match Nat.ble 151 t with
 | true => (match Nat.ble 152 t with
 | true => (match Nat.beq t 152 with | true => ⟨1, 8, false, [.lit .nilFunc], [], .other⟩ | false => Ty.none)
 | false => (match Nat.beq t 151 with | true => ⟨1, 8, false, [.lit .nilFunc], [], .other⟩ | false => Ty.none))
 | false => (match Nat.beq t 150 with | true => ⟨1, 8, false, [.lit .nilFunc], [], .other⟩ | false => Ty.none))
 | false => (match Nat.ble 148 t with
 | true => (match Nat.ble 149 t with
 | true => (match Nat.beq t 149 with | true => ⟨1, 8, false, [.lit .nilFunc], [], .other⟩ | false => Ty.none)
 | false => (match Nat.beq t 148 with | true => ⟨1, 8, false, [.lit .nilFunc], [], .other⟩ | false => Ty.none))
 | false => (match Nat.beq t 147 with | true => ⟨1, 24, false, [.nilS], [], .slice 29⟩ | false => Ty.none)))
 | false => (match Nat.ble 144 t with
 | true => (match Nat.ble 145 t with
 | true => (match Nat.ble 146 t with
 | true => (match Nat.beq t 146 with | true => ⟨1, 8, false, [.lit .nilFunc], [], .other⟩ | false => Ty.none)
 | false => (match Nat.beq t 145 with | true => ⟨1, 8, false, [.lit .nilFunc], [], .other⟩ | false => Ty.none))
 | false => (match Nat.beq t 144 with | true => ⟨1, 8, false, [.lit .nilFunc], [], .other⟩ | false => Ty.none))
 | false => (match Nat.ble 141 t with
 | true => (match Nat.ble 142 t with
 | true => (match Nat.beq t 142 with | true => ⟨1, 8, false, [.lit .nilFunc], [], .other⟩ | false => Ty.none)
 | false => (match Nat.beq t 141 with | true => ⟨1, 8, false, [.lit .nilFunc], [], .other⟩ | false => Ty.none))
 | false => (match Nat.beq t 140 with | true => ⟨1, 8, false, [.lit .nilFunc], [], .other⟩ | false => Ty.none)))))
 | false => (match Nat.ble 127 t with
 | true => (match Nat.ble 133 t with
 | true => (match Nat.ble 136 t with
 | true => (match Nat.ble 138 t with
 | true => (match Nat.ble 139 t with
 | true => (match Nat.beq t 139 with | true => ⟨1, 8, false, [.lit .nilFunc], [], .other⟩ | false => Ty.none)
 | false => (match Nat.beq t 138 with | true => ⟨1, 8, false, [.lit .nilFunc], [], .other⟩ | false => Ty.none))
 | false => (match Nat.beq t 136 with | true => ⟨1, 16, false, [.lit .nilIface], [], .iface⟩ | false => Ty.none))
 | false => (match Nat.ble 134 t with
 | true => (match Nat.ble 135 t with
 | true => (match Nat.beq t 135 with | true => ⟨1, 16, false, [.lit .nilIface], [], .iface⟩ | false => Ty.none)
 | false => (match Nat.beq t 134 with | true => ⟨1, 8, false, [.lit .nilFunc], [], .other⟩ | false => Ty.none))
 | false => (match Nat.beq t 133 with | true => ⟨1, 8, false, [.lit .nilFunc], [], .other⟩ | false => Ty.none)))
 | false => (match Nat.ble 130 t with
 | true => (match Nat.ble 131 t with
 | true => (match Nat.ble 132 t with
 | true => (match Nat.beq t 132 with | true => ⟨1, 8, false, [.lit .nilFunc], [], .other⟩ | false => Ty.none)
 | false => (match Nat.beq t 131 with | true => ⟨1, 8, false, [.lit .nilFunc], [], .other⟩ | false => Ty.none))
 | false => (match Nat.beq t 130 with | true => ⟨1, 8, false, [.lit .nilFunc], [], .other⟩ | false => Ty.none))
 | false => (match Nat.ble 128 t with
 | true => (match Nat.ble 129 t with
 | true => (match Nat.beq t 129 with | true => ⟨1, 8, false, [.lit .nilFunc], [], .other⟩ | false => Ty.none)
 | false => (match Nat.beq t 128 with | true => ⟨1, 8, false, [.lit .nilFunc], [], .other⟩ | false => Ty.none))
 | false => (match Nat.beq t 127 with | true => ⟨1, 8, false, [.lit .nilFunc], [], .other⟩ | false => Ty.none))))
 | false => (match Nat.ble 120 t with
 | true => (match Nat.ble 124 t with
 | true => (match Nat.ble 125 t with
 | true => (match Nat.ble 126 t with
 | true => (match Nat.beq t 126 with | true => ⟨1, 8, false, [.lit .nilFunc], [], .other⟩ | false => Ty.none)
 | false => (match Nat.beq t 125 with | true => ⟨1, 8, false, [.lit .nilFunc], [], .other⟩ | false => Ty.none))
 | false => (match Nat.beq t 124 with | true => ⟨1, 8, false, [.lit .nilFunc], [], .other⟩ | false => Ty.none))
 | false => (match Nat.ble 121 t with
 | true => (match Nat.ble 122 t with
 | true => (match Nat.beq t 122 with | true => ⟨1, 8, false, [.lit .nilFunc], [], .other⟩ | false => Ty.none)
 | false => (match Nat.beq t 121 with | true => ⟨1, 8, false, [.lit .nilFunc], [], .other⟩ | false => Ty.none))
 | false => (match Nat.beq t 120 with | true => ⟨1, 8, false, [.lit .nilFunc], [], .other⟩ | false => Ty.none)))
 | false => (match Nat.ble 117 t with
 | true => (match Nat.ble 118 t with
 | true => (match Nat.ble 119 t with
 | true => (match Nat.beq t 119 with | true => ⟨1, 8, false, [.lit .nilFunc], [], .other⟩ | false => Ty.none)
 | false => (match Nat.beq t 118 with | true => ⟨1, 8, false, [.lit .nilFunc], [], .other⟩ | false => Ty.none))
 | false => (match Nat.beq t 117 with | true => ⟨1, 8, false, [.lit .nilFunc], [], .other⟩ | false => Ty.none))
 | false => (match Nat.ble 114 t with
 | true => (match Nat.ble 115 t with
 | true => (match Nat.beq t 115 with | true => ⟨1, 24, false, [.nilS], [], .slice 59⟩ | false => Ty.none)
 | false => (match Nat.beq t 114 with | true => ⟨1, 8, false, [.lit .nilFunc], [], .other⟩ | false => Ty.none))
 | false => (match Nat.beq t 113 with | true => ⟨1, 8, false, [.lit .nilFunc], [], .other⟩ | false => Ty.none)))))))
 | false => (match Nat.ble 54 t with
 | true => (match Nat.ble 84 t with
 | true => (match Nat.ble 99 t with
 | true => (match Nat.ble 105 t with
 | true => (match Nat.ble 108 t with
 | true => (match Nat.ble 110 t with
 | true => (match Nat.ble 111 t with
 | true => (match Nat.beq t 111 with | true => ⟨1, 8, false, [.lit .nilFunc], [], .other⟩ | false => Ty.none)
 | false => (match Nat.beq t 110 with | true => ⟨1, 8, false, [.lit .nilFunc], [], .other⟩ | false => Ty.none))
 | false => (match Nat.ble 109 t with
 | true => (match Nat.beq t 109 with | true => ⟨9, 104, true, [.nilS, .nilS, .int .i64 0, .int .i64 0, .int .i64 0, .int .i64 0, .int .i64 0, .int .i64 0, .int .i64 0], [], .struct [(0, 2, true), (2, 4, true), (6, 3, true)]⟩ | false => Ty.none)
 | false => (match Nat.beq t 108 with | true => ⟨9, 104, true, [.nilS, .nilS, .int .i64 0, .int .i64 0, .int .i64 0, .int .i64 0, .int .i64 0, .int .i64 0, .int .i64 0], [], .struct [(0, 2, true), (2, 4, true), (6, 3, true)]⟩ | false => Ty.none)))
 | false => (match Nat.ble 106 t with
 | true => (match Nat.ble 107 t with
 | true => (match Nat.beq t 107 with | true => ⟨1, 8, false, [.lit .nilFunc], [], .other⟩ | false => Ty.none)
 | false => (match Nat.beq t 106 with | true => ⟨1, 8, false, [.lit .nilFunc], [], .other⟩ | false => Ty.none))
 | false => (match Nat.beq t 105 with | true => ⟨1, 8, false, [.lit .nilFunc], [], .other⟩ | false => Ty.none)))
 | false => (match Nat.ble 102 t with
 | true => (match Nat.ble 103 t with
 | true => (match Nat.ble 104 t with
 | true => (match Nat.beq t 104 with | true => ⟨1, 8, false, [.lit .nilFunc], [], .other⟩ | false => Ty.none)
 | false => (match Nat.beq t 103 with | true => ⟨1, 8, false, [.lit .nilFunc], [], .other⟩ | false => Ty.none))
 | false => (match Nat.beq t 102 with | true => ⟨1, 8, false, [.lit .nilFunc], [], .other⟩ | false => Ty.none))
 | false => (match Nat.ble 100 t with
 | true => (match Nat.ble 101 t with
 | true => (match Nat.beq t 101 with | true => ⟨1, 8, false, [.lit .nilFunc], [], .other⟩ | false => Ty.none)
 | false => (match Nat.beq t 100 with | true => ⟨4, 32, true, [.int .i64 0, .int .i64 0, .int .i64 0, .int .i64 0], [.int, .int, .int, .int], .struct [(0, 1, false), (1, 1, false), (2, 1, false), (3, 1, false)]⟩ | false => Ty.none))
 | false => (match Nat.beq t 99 with | true => ⟨1, 8, false, [.lit .nilFunc], [], .other⟩ | false => Ty.none))))
 | false => (match Nat.ble 91 t with
 | true => (match Nat.ble 96 t with
 | true => (match Nat.ble 97 t with
 | true => (match Nat.ble 98 t with
 | true => (match Nat.beq t 98 with | true => ⟨4, 32, true, [.int .i64 0, .int .i64 0, .int .i64 0, .int .i64 0], [.int, .int, .int, .int], .struct [(0, 1, false), (1, 1, false), (2, 1, false), (3, 1, false)]⟩ | false => Ty.none)
 | false => (match Nat.beq t 97 with | true => ⟨4, 32, true, [.int .i64 0, .int .i64 0, .int .i64 0, .int .i64 0], [.int, .int, .int, .int], .struct [(0, 1, false), (1, 1, false), (2, 1, false), (3, 1, false)]⟩ | false => Ty.none))
 | false => (match Nat.beq t 96 with | true => ⟨1, 8, false, [.lit .nilFunc], [], .other⟩ | false => Ty.none))
 | false => (match Nat.ble 94 t with
 | true => (match Nat.ble 95 t with
 | true => (match Nat.beq t 95 with | true => ⟨1, 8, false, [.lit .nilFunc], [], .other⟩ | false => Ty.none)
 | false => (match Nat.beq t 94 with | true => ⟨1, 8, false, [.lit .nilFunc], [], .other⟩ | false => Ty.none))
 | false => (match Nat.beq t 91 with | true => ⟨1, 8, false, [.lit .nilFunc], [], .other⟩ | false => Ty.none)))
 | false => (match Nat.ble 87 t with
 | true => (match Nat.ble 88 t with
 | true => (match Nat.ble 90 t with
 | true => (match Nat.beq t 90 with | true => ⟨1, 8, false, [.lit .nilFunc], [], .other⟩ | false => Ty.none)
 | false => (match Nat.beq t 88 with | true => ⟨1, 8, false, [.lit .nilFunc], [], .other⟩ | false => Ty.none))
 | false => (match Nat.beq t 87 with | true => ⟨1, 8, false, [.lit .nilFunc], [], .other⟩ | false => Ty.none))
 | false => (match Nat.ble 85 t with
 | true => (match Nat.ble 86 t with
 | true => (match Nat.beq t 86 with | true => ⟨1, 8, false, [.lit .nilFunc], [], .other⟩ | false => Ty.none)
 | false => (match Nat.beq t 85 with | true => ⟨1, 8, false, [.lit (.map none)], [], .mapv 9 84⟩ | false => Ty.none))
 | false => (match Nat.beq t 84 with | true => ⟨2, 16, true, [.lit .nilFunc, .lit .nilFunc], [], .struct [(0, 1, false), (1, 1, false)]⟩ | false => Ty.none)))))
 | false => (match Nat.ble 71 t with
 | true => (match Nat.ble 78 t with
 | true => (match Nat.ble 81 t with
 | true => (match Nat.ble 82 t with
 | true => (match Nat.ble 83 t with
 | true => (match Nat.beq t 83 with | true => ⟨2, 16, true, [.lit .nilFunc, .lit .nilFunc], [], .struct [(0, 1, false), (1, 1, false)]⟩ | false => Ty.none)
 | false => (match Nat.beq t 82 with | true => ⟨1, 8, false, [.lit .nilFunc], [], .other⟩ | false => Ty.none))
 | false => (match Nat.beq t 81 with | true => ⟨1, 8, false, [.lit .nilFunc], [], .other⟩ | false => Ty.none))
 | false => (match Nat.ble 79 t with
 | true => (match Nat.ble 80 t with
 | true => (match Nat.beq t 80 with | true => ⟨3, 72, true, [.nilS, .nilS, .nilS], [], .struct [(0, 3, true)]⟩ | false => Ty.none)
 | false => (match Nat.beq t 79 with | true => ⟨3, 72, true, [.nilS, .nilS, .nilS], [], .struct [(0, 3, true)]⟩ | false => Ty.none))
 | false => (match Nat.beq t 78 with | true => ⟨1, 8, false, [.lit (.pointer none)], [], .other⟩ | false => Ty.none)))
 | false => (match Nat.ble 75 t with
 | true => (match Nat.ble 76 t with
 | true => (match Nat.ble 77 t with
 | true => (match Nat.beq t 77 with | true => ⟨1, 24, false, [.nilS], [], .slice 69⟩ | false => Ty.none)
 | false => (match Nat.beq t 76 with | true => ⟨1, 8, false, [.lit .nilFunc], [], .other⟩ | false => Ty.none))
 | false => (match Nat.beq t 75 with | true => ⟨1, 8, false, [.lit .nilFunc], [], .other⟩ | false => Ty.none))
 | false => (match Nat.ble 73 t with
 | true => (match Nat.ble 74 t with
 | true => (match Nat.beq t 74 with | true => ⟨1, 8, false, [.lit .nilFunc], [], .other⟩ | false => Ty.none)
 | false => (match Nat.beq t 73 with | true => ⟨1, 8, false, [.lit .nilFunc], [], .other⟩ | false => Ty.none))
 | false => (match Nat.beq t 71 with | true => ⟨1, 8, false, [.lit .nilFunc], [], .other⟩ | false => Ty.none))))
 | false => (match Nat.ble 63 t with
 | true => (match Nat.ble 66 t with
 | true => (match Nat.ble 68 t with
 | true => (match Nat.ble 69 t with
 | true => (match Nat.beq t 69 with | true => ⟨3, 24, true, [.int .i64 0, .int .i64 0, .int .i64 0], [.int, .int, .int], .array 3 3⟩ | false => Ty.none)
 | false => (match Nat.beq t 68 with | true => ⟨1, 8, false, [.lit .nilFunc], [], .other⟩ | false => Ty.none))
 | false => (match Nat.beq t 66 with | true => ⟨2, 16, true, [.int .i64 0, .int .i64 0], [.int, .int], .struct [(0, 1, false), (1, 1, false)]⟩ | false => Ty.none))
 | false => (match Nat.ble 64 t with
 | true => (match Nat.ble 65 t with
 | true => (match Nat.beq t 65 with | true => ⟨2, 16, true, [.int .i64 0, .int .i64 0], [.int, .int], .struct [(0, 1, false), (1, 1, false)]⟩ | false => Ty.none)
 | false => (match Nat.beq t 64 with | true => ⟨1, 8, false, [.lit .nilFunc], [], .other⟩ | false => Ty.none))
 | false => (match Nat.beq t 63 with | true => ⟨1, 8, false, [.lit .nilFunc], [], .other⟩ | false => Ty.none)))
 | false => (match Nat.ble 58 t with
 | true => (match Nat.ble 59 t with
 | true => (match Nat.ble 61 t with
 | true => (match Nat.beq t 61 with | true => ⟨1, 8, false, [.lit .nilFunc], [], .other⟩ | false => Ty.none)
 | false => (match Nat.beq t 59 with | true => ⟨2, 16, true, [.int .i64 0, .int .i64 0], [.int, .int], .array 2 3⟩ | false => Ty.none))
 | false => (match Nat.beq t 58 with | true => ⟨1, 8, false, [.lit .nilFunc], [], .other⟩ | false => Ty.none))
 | false => (match Nat.ble 55 t with
 | true => (match Nat.ble 56 t with
 | true => (match Nat.beq t 56 with | true => ⟨2, 16, true, [.int .i64 0, .int .i64 0], [.int, .int], .struct [(0, 1, false), (1, 1, false)]⟩ | false => Ty.none)
 | false => (match Nat.beq t 55 with | true => ⟨2, 16, true, [.int .i64 0, .int .i64 0], [.int, .int], .struct [(0, 1, false), (1, 1, false)]⟩ | false => Ty.none))
 | false => (match Nat.beq t 54 with | true => ⟨1, 8, false, [.lit .nilFunc], [], .other⟩ | false => Ty.none))))))
 | false => (match Nat.ble 25 t with
 | true => (match Nat.ble 39 t with
 | true => (match Nat.ble 46 t with
 | true => (match Nat.ble 50 t with
 | true => (match Nat.ble 52 t with
 | true => (match Nat.ble 53 t with
 | true => (match Nat.beq t 53 with | true => ⟨3, 24, true, [.int .i64 0, .int .i64 0, .int .i64 0], [.int, .int, .int], .struct [(0, 1, false), (1, 1, false), (2, 1, false)]⟩ | false => Ty.none)
 | false => (match Nat.beq t 52 with | true => ⟨3, 24, true, [.int .i64 0, .int .i64 0, .int .i64 0], [.int, .int, .int], .struct [(0, 1, false), (1, 1, false), (2, 1, false)]⟩ | false => Ty.none))
 | false => (match Nat.ble 51 t with
 | true => (match Nat.beq t 51 with | true => ⟨1, 8, false, [.lit .nilFunc], [], .other⟩ | false => Ty.none)
 | false => (match Nat.beq t 50 with | true => ⟨1, 8, false, [.lit .nilFunc], [], .other⟩ | false => Ty.none)))
 | false => (match Nat.ble 47 t with
 | true => (match Nat.ble 48 t with
 | true => (match Nat.beq t 48 with | true => ⟨1, 8, false, [.lit .nilFunc], [], .other⟩ | false => Ty.none)
 | false => (match Nat.beq t 47 with | true => ⟨1, 8, false, [.lit .nilFunc], [], .other⟩ | false => Ty.none))
 | false => (match Nat.beq t 46 with | true => ⟨1, 24, false, [.nilS], [], .slice 9⟩ | false => Ty.none)))
 | false => (match Nat.ble 42 t with
 | true => (match Nat.ble 44 t with
 | true => (match Nat.ble 45 t with
 | true => (match Nat.beq t 45 with | true => ⟨1, 8, false, [.lit .nilFunc], [], .other⟩ | false => Ty.none)
 | false => (match Nat.beq t 44 with | true => ⟨1, 8, false, [.lit .nilFunc], [], .other⟩ | false => Ty.none))
 | false => (match Nat.beq t 42 with | true => ⟨1, 8, false, [.lit .nilFunc], [], .other⟩ | false => Ty.none))
 | false => (match Nat.ble 40 t with
 | true => (match Nat.ble 41 t with
 | true => (match Nat.beq t 41 with | true => ⟨1, 8, false, [.lit .nilFunc], [], .other⟩ | false => Ty.none)
 | false => (match Nat.beq t 40 with | true => ⟨1, 8, false, [.lit .nilFunc], [], .other⟩ | false => Ty.none))
 | false => (match Nat.beq t 39 with | true => ⟨1, 8, false, [.lit .nilFunc], [], .other⟩ | false => Ty.none))))
 | false => (match Nat.ble 32 t with
 | true => (match Nat.ble 35 t with
 | true => (match Nat.ble 37 t with
 | true => (match Nat.ble 38 t with
 | true => (match Nat.beq t 38 with | true => ⟨1, 8, false, [.lit .nilFunc], [], .other⟩ | false => Ty.none)
 | false => (match Nat.beq t 37 with | true => ⟨1, 8, false, [.lit .nilFunc], [], .other⟩ | false => Ty.none))
 | false => (match Nat.beq t 35 with | true => ⟨3, 72, true, [.nilS, .nilS, .nilS], [], .struct [(0, 2, true), (2, 1, false)]⟩ | false => Ty.none))
 | false => (match Nat.ble 33 t with
 | true => (match Nat.ble 34 t with
 | true => (match Nat.beq t 34 with | true => ⟨3, 72, true, [.nilS, .nilS, .nilS], [], .struct [(0, 2, true), (2, 1, false)]⟩ | false => Ty.none)
 | false => (match Nat.beq t 33 with | true => ⟨1, 24, false, [.nilS], [], .slice 98⟩ | false => Ty.none))
 | false => (match Nat.beq t 32 with | true => ⟨2, 48, true, [.nilS, .nilS], [], .struct [(0, 1, false), (1, 1, false)]⟩ | false => Ty.none)))
 | false => (match Nat.ble 28 t with
 | true => (match Nat.ble 29 t with
 | true => (match Nat.ble 31 t with
 | true => (match Nat.beq t 31 with | true => ⟨1, 8, false, [.lit .nilFunc], [], .other⟩ | false => Ty.none)
 | false => (match Nat.beq t 29 with | true => ⟨1, 8, false, [.int .i64 0], [], .other⟩ | false => Ty.none))
 | false => (match Nat.beq t 28 with | true => ⟨3, 72, true, [.nilS, .nilS, .nilS], [], .struct [(0, 2, true), (2, 1, false)]⟩ | false => Ty.none))
 | false => (match Nat.ble 26 t with
 | true => (match Nat.ble 27 t with
 | true => (match Nat.beq t 27 with | true => ⟨3, 72, true, [.nilS, .nilS, .nilS], [], .struct [(0, 2, true), (2, 1, false)]⟩ | false => Ty.none)
 | false => (match Nat.beq t 26 with | true => ⟨1, 24, false, [.nilS], [], .slice 100⟩ | false => Ty.none))
 | false => (match Nat.beq t 25 with | true => ⟨2, 48, true, [.nilS, .nilS], [], .struct [(0, 1, false), (1, 1, false)]⟩ | false => Ty.none)))))
 | false => (match Nat.ble 13 t with
 | true => (match Nat.ble 19 t with
 | true => (match Nat.ble 22 t with
 | true => (match Nat.ble 23 t with
 | true => (match Nat.ble 24 t with
 | true => (match Nat.beq t 24 with | true => ⟨2, 48, true, [.nilS, .nilS], [], .struct [(0, 1, false), (1, 1, false)]⟩ | false => Ty.none)
 | false => (match Nat.beq t 23 with | true => ⟨1, 24, false, [.nilS], [], .slice 3⟩ | false => Ty.none))
 | false => (match Nat.beq t 22 with | true => ⟨1, 8, false, [.lit .nilFunc], [], .other⟩ | false => Ty.none))
 | false => (match Nat.ble 20 t with
 | true => (match Nat.ble 21 t with
 | true => (match Nat.beq t 21 with | true => ⟨1, 4, false, [.int .i32 0], [], .other⟩ | false => Ty.none)
 | false => (match Nat.beq t 20 with | true => ⟨1, 16, false, [.lit .nilIface], [], .iface⟩ | false => Ty.none))
 | false => (match Nat.beq t 19 with | true => ⟨1, 8, true, [.lit (.pointer none)], [], .struct [(0, 1, false)]⟩ | false => Ty.none)))
 | false => (match Nat.ble 16 t with
 | true => (match Nat.ble 17 t with
 | true => (match Nat.ble 18 t with
 | true => (match Nat.beq t 18 with | true => ⟨1, 8, true, [.lit (.pointer none)], [], .struct [(0, 1, false)]⟩ | false => Ty.none)
 | false => (match Nat.beq t 17 with | true => ⟨1, 8, false, [.lit (.pointer none)], [], .other⟩ | false => Ty.none))
 | false => (match Nat.beq t 16 with | true => ⟨1, 8, false, [.lit (.pointer none)], [], .other⟩ | false => Ty.none))
 | false => (match Nat.ble 14 t with
 | true => (match Nat.ble 15 t with
 | true => (match Nat.beq t 15 with | true => ⟨1, 8, false, [.lit (.pointer none)], [], .other⟩ | false => Ty.none)
 | false => (match Nat.beq t 14 with | true => ⟨2, 24, true, [.str ByteArray.empty, .int .u64 0], [], .struct [(0, 1, false), (1, 1, false)]⟩ | false => Ty.none))
 | false => (match Nat.beq t 13 with | true => ⟨2, 24, true, [.str ByteArray.empty, .int .u64 0], [], .struct [(0, 1, false), (1, 1, false)]⟩ | false => Ty.none))))
 | false => (match Nat.ble 7 t with
 | true => (match Nat.ble 10 t with
 | true => (match Nat.ble 11 t with
 | true => (match Nat.ble 12 t with
 | true => (match Nat.beq t 12 with | true => ⟨1, 8, false, [.int .u64 0], [], .other⟩ | false => Ty.none)
 | false => (match Nat.beq t 11 with | true => ⟨1, 16, false, [.str ByteArray.empty], [], .str⟩ | false => Ty.none))
 | false => (match Nat.beq t 10 with | true => ⟨1, 16, false, [.str ByteArray.empty], [], .str⟩ | false => Ty.none))
 | false => (match Nat.ble 8 t with
 | true => (match Nat.ble 9 t with
 | true => (match Nat.beq t 9 with | true => ⟨1, 16, false, [.str ByteArray.empty], [], .str⟩ | false => Ty.none)
 | false => (match Nat.beq t 8 with | true => ⟨4, 24, true, [.int .i64 0, .int .i64 0, .bool false, .int .u8 0], [], .struct [(0, 1, false), (1, 1, false), (2, 1, false), (3, 1, false)]⟩ | false => Ty.none))
 | false => (match Nat.beq t 7 with | true => ⟨4, 24, true, [.int .i64 0, .int .i64 0, .bool false, .int .u8 0], [], .struct [(0, 1, false), (1, 1, false), (2, 1, false), (3, 1, false)]⟩ | false => Ty.none)))
 | false => (match Nat.ble 4 t with
 | true => (match Nat.ble 5 t with
 | true => (match Nat.ble 6 t with
 | true => (match Nat.beq t 6 with | true => ⟨1, 1, false, [.int .u8 0], [], .other⟩ | false => Ty.none)
 | false => (match Nat.beq t 5 with | true => ⟨1, 1, false, [.int .u8 0], [], .other⟩ | false => Ty.none))
 | false => (match Nat.beq t 4 with | true => ⟨1, 1, false, [.bool false], [], .other⟩ | false => Ty.none))
 | false => (match Nat.ble 2 t with
 | true => (match Nat.ble 3 t with
 | true => (match Nat.beq t 3 with | true => ⟨1, 8, false, [.int .i64 0], [], .other⟩ | false => Ty.none)
 | false => (match Nat.beq t 2 with | true => ⟨1, 8, false, [.int .i64 0], [], .other⟩ | false => Ty.none))
 | false => (match Nat.beq t 1 with | true => ⟨1, 8, false, [.lit .nilFunc], [], .other⟩ | false => Ty.none))))))))
noncomputable abbrev prog : Program := Tryz.prog
set_option maxRecDepth 100000 in
theorem tok0 : TOK prog T := tok_of 225 (by kernel_rfl) (fun t h => by unfold T; rw [show Nat.blt t 225 = false from h])
theorem mixed0 : prog.follows .mixedOrders = true := by kernel_rfl
abbrev n_nacellelaw03_RotorTexts : Nat := 3
noncomputable abbrev f_nacellelaw03_RotorTexts : Func := Tryz.f3
theorem h_nacellelaw03_RotorTexts : prog.funcs[n_nacellelaw03_RotorTexts]? = some f_nacellelaw03_RotorTexts := Tryz.func3
abbrev n_nacellelaw03_awake : Nat := 5
noncomputable abbrev f_nacellelaw03_awake : Func := Tryz.f5
theorem h_nacellelaw03_awake : prog.funcs[n_nacellelaw03_awake]? = some f_nacellelaw03_awake := Tryz.func5
abbrev n_rotor_Parse : Nat := 6
noncomputable abbrev f_rotor_Parse : Func := Tryz.f6
theorem h_rotor_Parse : prog.funcs[n_rotor_Parse]? = some f_rotor_Parse := Tryz.func6
abbrev n_nacelleref03_Parse : Nat := 7
noncomputable abbrev f_nacelleref03_Parse : Func := Tryz.f7
theorem h_nacelleref03_Parse : prog.funcs[n_nacelleref03_Parse]? = some f_nacelleref03_Parse := Tryz.func7
abbrev n_nacelleref03_SameBlade : Nat := 8
noncomputable abbrev f_nacelleref03_SameBlade : Func := Tryz.f8
theorem h_nacelleref03_SameBlade : prog.funcs[n_nacelleref03_SameBlade]? = some f_nacelleref03_SameBlade := Tryz.func8
abbrev n_nacellelaw03_told : Nat := 9
noncomputable abbrev f_nacellelaw03_told : Func := Tryz.f9
theorem h_nacellelaw03_told : prog.funcs[n_nacellelaw03_told]? = some f_nacellelaw03_told := Tryz.func9
abbrev n_nacelleref03_CheckBlade : Nat := 11
noncomputable abbrev f_nacelleref03_CheckBlade : Func := Tryz.f11
theorem h_nacelleref03_CheckBlade : prog.funcs[n_nacelleref03_CheckBlade]? = some f_nacelleref03_CheckBlade := Tryz.func11
abbrev n_rotor_Print : Nat := 12
noncomputable abbrev f_rotor_Print : Func := Tryz.f12
theorem h_rotor_Print : prog.funcs[n_rotor_Print]? = some f_rotor_Print := Tryz.func12
abbrev n_nacelleref01_Split : Nat := 14
noncomputable abbrev f_nacelleref01_Split : Func := Tryz.f14
theorem h_nacelleref01_Split : prog.funcs[n_nacelleref01_Split]? = some f_nacelleref01_Split := Tryz.func14
abbrev n_rotor_Inflow : Nat := 15
noncomputable abbrev f_rotor_Inflow : Func := Tryz.f15
theorem h_rotor_Inflow : prog.funcs[n_rotor_Inflow]? = some f_rotor_Inflow := Tryz.func15
abbrev n_nacellelaw03_sample : Nat := 16
noncomputable abbrev f_nacellelaw03_sample : Func := Tryz.f16
theorem h_nacellelaw03_sample : prog.funcs[n_nacellelaw03_sample]? = some f_nacellelaw03_sample := Tryz.func16
abbrev n_nacellelaw03_breeze : Nat := 17
noncomputable abbrev f_nacellelaw03_breeze : Func := Tryz.f17
theorem h_nacellelaw03_breeze : prog.funcs[n_nacellelaw03_breeze]? = some f_nacellelaw03_breeze := Tryz.func17
abbrev n_rotor_Balance : Nat := 18
noncomputable abbrev f_rotor_Balance : Func := Tryz.f18
theorem h_rotor_Balance : prog.funcs[n_rotor_Balance]? = some f_rotor_Balance := Tryz.func18
abbrev n_rotor_Find : Nat := 19
noncomputable abbrev f_rotor_Find : Func := Tryz.f19
theorem h_rotor_Find : prog.funcs[n_rotor_Find]? = some f_rotor_Find := Tryz.func19
abbrev n_rotor_Thrust : Nat := 20
noncomputable abbrev f_rotor_Thrust : Func := Tryz.f20
theorem h_rotor_Thrust : prog.funcs[n_rotor_Thrust]? = some f_rotor_Thrust := Tryz.func20
abbrev n_rotor_Torque : Nat := 21
noncomputable abbrev f_rotor_Torque : Func := Tryz.f21
theorem h_rotor_Torque : prog.funcs[n_rotor_Torque]? = some f_rotor_Torque := Tryz.func21
abbrev n_rotor_Best : Nat := 22
noncomputable abbrev f_rotor_Best : Func := Tryz.f22
theorem h_rotor_Best : prog.funcs[n_rotor_Best]? = some f_rotor_Best := Tryz.func22
abbrev n_rotor_Limit : Nat := 23
noncomputable abbrev f_rotor_Limit : Func := Tryz.f23
theorem h_rotor_Limit : prog.funcs[n_rotor_Limit]? = some f_rotor_Limit := Tryz.func23
abbrev n_rotor_Split : Nat := 24
noncomputable abbrev f_rotor_Split : Func := Tryz.f24
theorem h_rotor_Split : prog.funcs[n_rotor_Split]? = some f_rotor_Split := Tryz.func24
abbrev n_rotor_Turn : Nat := 25
noncomputable abbrev f_rotor_Turn : Func := Tryz.f25
theorem h_rotor_Turn : prog.funcs[n_rotor_Turn]? = some f_rotor_Turn := Tryz.func25
abbrev n_rotor_Merge : Nat := 26
noncomputable abbrev f_rotor_Merge : Func := Tryz.f26
theorem h_rotor_Merge : prog.funcs[n_rotor_Merge]? = some f_rotor_Merge := Tryz.func26
abbrev n_rotor_Times : Nat := 27
noncomputable abbrev f_rotor_Times : Func := Tryz.f27
theorem h_rotor_Times : prog.funcs[n_rotor_Times]? = some f_rotor_Times := Tryz.func27
abbrev n_rotor_Norm : Nat := 28
noncomputable abbrev f_rotor_Norm : Func := Tryz.f28
theorem h_rotor_Norm : prog.funcs[n_rotor_Norm]? = some f_rotor_Norm := Tryz.func28
abbrev n_rotor_Rotating : Nat := 29
noncomputable abbrev f_rotor_Rotating : Func := Tryz.f29
theorem h_rotor_Rotating : prog.funcs[n_rotor_Rotating]? = some f_rotor_Rotating := Tryz.func29
abbrev n_rotor_Fixed : Nat := 30
noncomputable abbrev f_rotor_Fixed : Func := Tryz.f30
theorem h_rotor_Fixed : prog.funcs[n_rotor_Fixed]? = some f_rotor_Fixed := Tryz.func30
abbrev n_rotor_Parse_1 : Nat := 31
noncomputable abbrev f_rotor_Parse_1 : Func := Tryz.f31
theorem h_rotor_Parse_1 : prog.funcs[n_rotor_Parse_1]? = some f_rotor_Parse_1 := Tryz.func31
abbrev n_rotor_reader_polar : Nat := 32
noncomputable abbrev f_rotor_reader_polar : Func := Tryz.f32
theorem h_rotor_reader_polar : prog.funcs[n_rotor_reader_polar]? = some f_rotor_reader_polar := Tryz.func32
abbrev n_rotor_Parse_2 : Nat := 33
noncomputable abbrev f_rotor_Parse_2 : Func := Tryz.f33
theorem h_rotor_Parse_2 : prog.funcs[n_rotor_Parse_2]? = some f_rotor_Parse_2 := Tryz.func33
abbrev n_rotor_reader_ring : Nat := 34
noncomputable abbrev f_rotor_reader_ring : Func := Tryz.f34
theorem h_rotor_reader_ring : prog.funcs[n_rotor_reader_ring]? = some f_rotor_reader_ring := Tryz.func34
abbrev n_strings_Lines : Nat := 35
noncomputable abbrev f_strings_Lines : Func := Tryz.f35
theorem h_strings_Lines : prog.funcs[n_strings_Lines]? = some f_strings_Lines := Tryz.func35
abbrev n_strings_CutSuffix : Nat := 36
noncomputable abbrev f_strings_CutSuffix : Func := Tryz.f36
theorem h_strings_CutSuffix : prog.funcs[n_strings_CutSuffix]? = some f_strings_CutSuffix := Tryz.func36
abbrev n_strings_Split : Nat := 37
noncomputable abbrev f_strings_Split : Func := Tryz.f37
theorem h_strings_Split : prog.funcs[n_strings_Split]? = some f_strings_Split := Tryz.func37
abbrev n_rotor_integers : Nat := 38
noncomputable abbrev f_rotor_integers : Func := Tryz.f38
theorem h_rotor_integers : prog.funcs[n_rotor_integers]? = some f_rotor_integers := Tryz.func38
abbrev n_rotor_CheckBlade : Nat := 39
noncomputable abbrev f_rotor_CheckBlade : Func := Tryz.f39
theorem h_rotor_CheckBlade : prog.funcs[n_rotor_CheckBlade]? = some f_rotor_CheckBlade := Tryz.func39
abbrev n_nacelleref03_numbers : Nat := 40
noncomputable abbrev f_nacelleref03_numbers : Func := Tryz.f40
theorem h_nacelleref03_numbers : prog.funcs[n_nacelleref03_numbers]? = some f_nacelleref03_numbers := Tryz.func40
abbrev n_nacelleref01_SameInts : Nat := 41
noncomputable abbrev f_nacelleref01_SameInts : Func := Tryz.f41
theorem h_nacelleref01_SameInts : prog.funcs[n_nacelleref01_SameInts]? = some f_nacelleref01_SameInts := Tryz.func41
abbrev n_nacelleref03_CheckPolar : Nat := 42
noncomputable abbrev f_nacelleref03_CheckPolar : Func := Tryz.f42
theorem h_nacelleref03_CheckPolar : prog.funcs[n_nacelleref03_CheckPolar]? = some f_nacelleref03_CheckPolar := Tryz.func42
abbrev n_nacelleref01_First : Nat := 43
noncomputable abbrev f_nacelleref01_First : Func := Tryz.f43
theorem h_nacelleref01_First : prog.funcs[n_nacelleref01_First]? = some f_nacelleref01_First := Tryz.func43
abbrev n_nacelleref01_CheckRange : Nat := 44
noncomputable abbrev f_nacelleref01_CheckRange : Func := Tryz.f44
theorem h_nacelleref01_CheckRange : prog.funcs[n_nacelleref01_CheckRange]? = some f_nacelleref01_CheckRange := Tryz.func44
abbrev n_rotor_line : Nat := 45
noncomputable abbrev f_rotor_line : Func := Tryz.f45
theorem h_rotor_line : prog.funcs[n_rotor_line]? = some f_rotor_line := Tryz.func45
abbrev n_rotor_first : Nat := 46
noncomputable abbrev f_rotor_first : Func := Tryz.f46
theorem h_rotor_first : prog.funcs[n_rotor_first]? = some f_rotor_first := Tryz.func46
abbrev n_rotor_checkRing : Nat := 47
noncomputable abbrev f_rotor_checkRing : Func := Tryz.f47
theorem h_rotor_checkRing : prog.funcs[n_rotor_checkRing]? = some f_rotor_checkRing := Tryz.func47
abbrev n_rotor_Induction_check : Nat := 48
noncomputable abbrev f_rotor_Induction_check : Func := Tryz.f48
theorem h_rotor_Induction_check : prog.funcs[n_rotor_Induction_check]? = some f_rotor_Induction_check := Tryz.func48
abbrev n_rotor_section_inflow : Nat := 49
noncomputable abbrev f_rotor_section_inflow : Func := Tryz.f49
theorem h_rotor_section_inflow : prog.funcs[n_rotor_section_inflow]? = some f_rotor_section_inflow := Tryz.func49
abbrev n_rotor_section_balance : Nat := 50
noncomputable abbrev f_rotor_section_balance : Func := Tryz.f50
theorem h_rotor_section_balance : prog.funcs[n_rotor_section_balance]? = some f_rotor_section_balance := Tryz.func50
abbrev n_rotor_checkDepth : Nat := 51
noncomputable abbrev f_rotor_checkDepth : Func := Tryz.f51
theorem h_rotor_checkDepth : prog.funcs[n_rotor_checkDepth]? = some f_rotor_checkDepth := Tryz.func51
abbrev n_rotor_section_find : Nat := 52
noncomputable abbrev f_rotor_section_find : Func := Tryz.f52
theorem h_rotor_section_find : prog.funcs[n_rotor_section_find]? = some f_rotor_section_find := Tryz.func52
abbrev n_rotor_when : Nat := 53
noncomputable abbrev f_rotor_when : Func := Tryz.f53
theorem h_rotor_when : prog.funcs[n_rotor_when]? = some f_rotor_when := Tryz.func53
abbrev n_rotor_checkAll : Nat := 54
noncomputable abbrev f_rotor_checkAll : Func := Tryz.f54
theorem h_rotor_checkAll : prog.funcs[n_rotor_checkAll]? = some f_rotor_checkAll := Tryz.func54
abbrev n_rotor_each : Nat := 55
noncomputable abbrev f_rotor_each : Func := Tryz.f55
theorem h_rotor_each : prog.funcs[n_rotor_each]? = some f_rotor_each := Tryz.func55
abbrev n_rotor_section_thrust : Nat := 56
noncomputable abbrev f_rotor_section_thrust : Func := Tryz.f56
theorem h_rotor_section_thrust : prog.funcs[n_rotor_section_thrust]? = some f_rotor_section_thrust := Tryz.func56
abbrev n_rotor_sum : Nat := 57
noncomputable abbrev f_rotor_sum : Func := Tryz.f57
theorem h_rotor_sum : prog.funcs[n_rotor_sum]? = some f_rotor_sum := Tryz.func57
abbrev n_rotor_Rings : Nat := 58
noncomputable abbrev f_rotor_Rings : Func := Tryz.f58
theorem h_rotor_Rings : prog.funcs[n_rotor_Rings]? = some f_rotor_Rings := Tryz.func58
abbrev n_rotor_checkPitches : Nat := 59
noncomputable abbrev f_rotor_checkPitches : Func := Tryz.f59
theorem h_rotor_checkPitches : prog.funcs[n_rotor_checkPitches]? = some f_rotor_checkPitches := Tryz.func59
abbrev n_rotor_pitched : Nat := 60
noncomputable abbrev f_rotor_pitched : Func := Tryz.f60
theorem h_rotor_pitched : prog.funcs[n_rotor_pitched]? = some f_rotor_pitched := Tryz.func60
abbrev n_rotor_within : Nat := 61
noncomputable abbrev f_rotor_within : Func := Tryz.f61
theorem h_rotor_within : prog.funcs[n_rotor_within]? = some f_rotor_within := Tryz.func61
abbrev n_rotor_checkLoads : Nat := 62
noncomputable abbrev f_rotor_checkLoads : Func := Tryz.f62
theorem h_rotor_checkLoads : prog.funcs[n_rotor_checkLoads]? = some f_rotor_checkLoads := Tryz.func62
abbrev n_rotor_component : Nat := 63
noncomputable abbrev f_rotor_component : Func := Tryz.f63
theorem h_rotor_component : prog.funcs[n_rotor_component]? = some f_rotor_component := Tryz.func63
abbrev n_rotor_Pair_check : Nat := 64
noncomputable abbrev f_rotor_Pair_check : Func := Tryz.f64
theorem h_rotor_Pair_check : prog.funcs[n_rotor_Pair_check]? = some f_rotor_Pair_check := Tryz.func64
abbrev n_rotor_Pair_turned : Nat := 65
noncomputable abbrev f_rotor_Pair_turned : Func := Tryz.f65
theorem h_rotor_Pair_turned : prog.funcs[n_rotor_Pair_turned]? = some f_rotor_Pair_turned := Tryz.func65
abbrev n_rotor_Pair_times : Nat := 66
noncomputable abbrev f_rotor_Pair_times : Func := Tryz.f66
theorem h_rotor_Pair_times : prog.funcs[n_rotor_Pair_times]? = some f_rotor_Pair_times := Tryz.func66
abbrev n_rotor_record : Nat := 67
noncomputable abbrev f_rotor_record : Func := Tryz.f67
theorem h_rotor_record : prog.funcs[n_rotor_record]? = some f_rotor_record := Tryz.func67
abbrev n_rotor_Rotating_1 : Nat := 68
noncomputable abbrev f_rotor_Rotating_1 : Func := Tryz.f68
theorem h_rotor_Rotating_1 : prog.funcs[n_rotor_Rotating_1]? = some f_rotor_Rotating_1 := Tryz.func68
abbrev n_strings_Lines_1 : Nat := 69
noncomputable abbrev f_strings_Lines_1 : Func := Tryz.f69
theorem h_strings_Lines_1 : prog.funcs[n_strings_Lines_1]? = some f_strings_Lines_1 := Tryz.func69
abbrev n_strings_IndexByte : Nat := 70
noncomputable abbrev f_strings_IndexByte : Func := Tryz.f70
theorem h_strings_IndexByte : prog.funcs[n_strings_IndexByte]? = some f_strings_IndexByte := Tryz.func70
abbrev n_internal_stringslite_CutSuffix : Nat := 71
noncomputable abbrev f_internal_stringslite_CutSuffix : Func := Tryz.f71
theorem h_internal_stringslite_CutSuffix : prog.funcs[n_internal_stringslite_CutSuffix]? = some f_internal_stringslite_CutSuffix := Tryz.func71
abbrev n_strings_genSplit : Nat := 72
noncomputable abbrev f_strings_genSplit : Func := Tryz.f72
theorem h_strings_genSplit : prog.funcs[n_strings_genSplit]? = some f_strings_genSplit := Tryz.func72
abbrev n_rotor_mapped_string_int : Nat := 73
noncomputable abbrev f_rotor_mapped_string_int : Func := Tryz.f73
theorem h_rotor_mapped_string_int : prog.funcs[n_rotor_mapped_string_int]? = some f_rotor_mapped_string_int := Tryz.func73
abbrev n_rotor_integers_1 : Nat := 74
noncomputable abbrev f_rotor_integers_1 : Func := Tryz.f74
theorem h_rotor_integers_1 : prog.funcs[n_rotor_integers_1]? = some f_rotor_integers_1 := Tryz.func74
abbrev n_strconv_Atoi : Nat := 75
noncomputable abbrev f_strconv_Atoi : Func := Tryz.f75
theorem h_strconv_Atoi : prog.funcs[n_strconv_Atoi]? = some f_strconv_Atoi := Tryz.func75
abbrev n_strconv_Itoa : Nat := 76
noncomputable abbrev f_strconv_Itoa : Func := Tryz.f76
theorem h_strconv_Itoa : prog.funcs[n_strconv_Itoa]? = some f_strconv_Itoa := Tryz.func76
abbrev n_strings_TrimPrefix : Nat := 77
noncomputable abbrev f_strings_TrimPrefix : Func := Tryz.f77
theorem h_strings_TrimPrefix : prog.funcs[n_strings_TrimPrefix]? = some f_strings_TrimPrefix := Tryz.func77
abbrev n_rotor_CheckPolar : Nat := 78
noncomputable abbrev f_rotor_CheckPolar : Func := Tryz.f78
theorem h_rotor_CheckPolar : prog.funcs[n_rotor_CheckPolar]? = some f_rotor_CheckPolar := Tryz.func78
abbrev n_rotor_Ring_check : Nat := 79
noncomputable abbrev f_rotor_Ring_check : Func := Tryz.f79
theorem h_rotor_Ring_check : prog.funcs[n_rotor_Ring_check]? = some f_rotor_Ring_check := Tryz.func79
abbrev n_nacelleref01_Number : Nat := 80
noncomputable abbrev f_nacelleref01_Number : Func := Tryz.f80
theorem h_nacelleref01_Number : prog.funcs[n_nacelleref01_Number]? = some f_nacelleref01_Number := Tryz.func80
abbrev n_strings_Join : Nat := 81
noncomputable abbrev f_strings_Join : Func := Tryz.f81
theorem h_strings_Join : prog.funcs[n_strings_Join]? = some f_strings_Join := Tryz.func81
abbrev n_rotor_mapped_int_string : Nat := 82
noncomputable abbrev f_rotor_mapped_int_string : Func := Tryz.f82
theorem h_rotor_mapped_int_string : prog.funcs[n_rotor_mapped_int_string]? = some f_rotor_mapped_int_string := Tryz.func82
abbrev n_rotor_CheckFlow : Nat := 83
noncomputable abbrev f_rotor_CheckFlow : Func := Tryz.f83
theorem h_rotor_CheckFlow : prog.funcs[n_rotor_CheckFlow]? = some f_rotor_CheckFlow := Tryz.func83
abbrev n_rotor_section_class : Nat := 84
noncomputable abbrev f_rotor_section_class : Func := Tryz.f84
theorem h_rotor_section_class : prog.funcs[n_rotor_section_class]? = some f_rotor_section_class := Tryz.func84
abbrev n_rotor_sections : Nat := 85
noncomputable abbrev f_rotor_sections : Func := Tryz.f85
theorem h_rotor_sections : prog.funcs[n_rotor_sections]? = some f_rotor_sections := Tryz.func85
abbrev n_rotor_section_thrust_1 : Nat := 86
noncomputable abbrev f_rotor_section_thrust_1 : Func := Tryz.f86
theorem h_rotor_section_thrust_1 : prog.funcs[n_rotor_section_thrust_1]? = some f_rotor_section_thrust_1 := Tryz.func86
abbrev n_rotor_section_torque : Nat := 87
noncomputable abbrev f_rotor_section_torque : Func := Tryz.f87
theorem h_rotor_section_torque : prog.funcs[n_rotor_section_torque]? = some f_rotor_section_torque := Tryz.func87
abbrev n_rotor_mapped_int_api_Errno : Nat := 88
noncomputable abbrev f_rotor_mapped_int_api_Errno : Func := Tryz.f88
theorem h_rotor_mapped_int_api_Errno : prog.funcs[n_rotor_mapped_int_api_Errno]? = some f_rotor_mapped_int_api_Errno := Tryz.func88
abbrev n_rotor_checkLoads_1 : Nat := 89
noncomputable abbrev f_rotor_checkLoads_1 : Func := Tryz.f89
theorem h_rotor_checkLoads_1 : prog.funcs[n_rotor_checkLoads_1]? = some f_rotor_checkLoads_1 := Tryz.func89
abbrev n_rotor_mapped_3_int_api_Errno : Nat := 90
noncomputable abbrev f_rotor_mapped_3_int_api_Errno : Func := Tryz.f90
theorem h_rotor_mapped_3_int_api_Errno : prog.funcs[n_rotor_mapped_3_int_api_Errno]? = some f_rotor_mapped_3_int_api_Errno := Tryz.func90
abbrev n_internal_stringslite_HasSuffix : Nat := 92
noncomputable abbrev f_internal_stringslite_HasSuffix : Func := Tryz.f92
theorem h_internal_stringslite_HasSuffix : prog.funcs[n_internal_stringslite_HasSuffix]? = some f_internal_stringslite_HasSuffix := Tryz.func92
abbrev n_rotor_CheckPolar_1 : Nat := 100
noncomputable abbrev f_rotor_CheckPolar_1 : Func := Tryz.f100
theorem h_rotor_CheckPolar_1 : prog.funcs[n_rotor_CheckPolar_1]? = some f_rotor_CheckPolar_1 := Tryz.func100
abbrev n_rotor_section_shift : Nat := 104
noncomputable abbrev f_rotor_section_shift : Func := Tryz.f104
theorem h_rotor_section_shift : prog.funcs[n_rotor_section_shift]? = some f_rotor_section_shift := Tryz.func104
abbrev n_rotor_sections_1 : Nat := 105
noncomputable abbrev f_rotor_sections_1 : Func := Tryz.f105
theorem h_rotor_sections_1 : prog.funcs[n_rotor_sections_1]? = some f_rotor_sections_1 := Tryz.func105
abbrev n_rotor_Induction_next : Nat := 106
noncomputable abbrev f_rotor_Induction_next : Func := Tryz.f106
theorem h_rotor_Induction_next : prog.funcs[n_rotor_Induction_next]? = some f_rotor_Induction_next := Tryz.func106
abbrev n_rotor_section_torque_1 : Nat := 107
noncomputable abbrev f_rotor_section_torque_1 : Func := Tryz.f107
theorem h_rotor_section_torque_1 : prog.funcs[n_rotor_section_torque_1]? = some f_rotor_section_torque_1 := Tryz.func107
abbrev g_rotor_roots : Nat := 0
abbrev g_strconv_ErrSyntax : Nat := 2
abbrev g_strconv_ErrRange : Nat := 3
abbrev g_internal_strconv_uint64pow10 : Nat := 6
end Go.Proofs.YtfoenhiohhmnlaaGreatDoor.Ix

namespace Go.Proofs.YtfoenhiohhmnlaaGreatDoor.Ix
def withinS (n lo hi : Int) : Int := bif (decide (n < lo) || decide (n > hi)) then 3 else 0
def firstS (f : Nat → Int) : Nat → Nat → Int
  | 0, _ => 0
  | n + 1, i => bif f i != 0 then f i else firstS f n (i + 1)
abbrev w64 : Int → Int := IntKind.i64.wrap
def secI (nl nd : Nat) (lf df : Nat → Int) (r c t tip w s p : Int) : IV :=
  .agg [.lst none 1 nl fun i => [.int .i64 (lf i)], .lst none 1 nd fun i => [.int .i64 (df i)], .int .i64 r, .int .i64 c, .int .i64 t, .int .i64 tip, .int .i64 w, .int .i64 s, .int .i64 p]
def maxW (a b : Int) : Int := if b > a then b else a
def minW (a b : Int) : Int := if b < a then b else a
def wholeW (d : Int) : Int := w64 (1 * 2 ^ (min d.toNat 64))
def denW (r s d : Int) : Int := w64 (w64 (wholeW d * s) * r)
def inflowW (r w s a d : Int) : Int := w64 ((w64 (w64 (1024 * w64 (wholeW d - a)) * w)).tdiv (denW r s d))
def classW (nl : Nat) (t p x : Int) : Int := minW (maxW 0 (w64 (x - w64 (t + p)))) (w64 (nl - 1))
def balanceW (nl : Nat) (lf : Nat → Int) (r c t tip w s p a d : Int) : Int :=
  w64 (w64 (w64 (w64 (1024 * a) * w64 (wholeW d - a)) * r) - w64 (w64 (w64 (w64 (wholeW d * wholeW d) * c) * tip) * lf (classW nl t p (inflowW r w s a d)).toNat))
structure BalOK (nl : Nat) (r t w s p a d : Int) : Prop where
  d0 : 0 ≤ d
  den : denW r s d ≠ 0
  lo : 0 ≤ classW nl t p (inflowW r w s a d)
  hi : classW nl t p (inflowW r w s a d) < nl
def halfW (d : Int) : Int := w64 (1 * 2 ^ (min (w64 (d - 1)).toNat 64))
def searchS (f : Int → Int) : Nat → Int → Int → Int
  | 0, lo, _ => lo
  | n + 1, lo, hi => bif decide (hi - lo > 1) then (bif decide (f ((lo + hi) / 2) ≤ 0) then searchS f n ((lo + hi) / 2) hi else searchS f n lo ((lo + hi) / 2)) else lo
def findS (f : Int → Int) (half : Int) : Option Int := bif decide (f half ≤ 0) then none else some (searchS f half.toNat 0 half)
def ofW (nl : Nat) (lf df : Nat → Int) (r c t tip p x : Int) : Int :=
  w64 (w64 (w64 (r * c) * tip) * w64 (w64 (x * lf (classW nl t p x).toNat) - w64 (1024 * df (classW nl t p x).toNat)))
def secL (nl nd : Nat) (lf df : Nat → Int) (r c t tip w s p : Int) : List IV :=
  [.lst none 1 nl fun i => [.int .i64 (lf i)], .lst none 1 nd fun i => [.int .i64 (df i)], .int .i64 r, .int .i64 c, .int .i64 t, .int .i64 tip, .int .i64 w, .int .i64 s, .int .i64 p]
end Go.Proofs.YtfoenhiohhmnlaaGreatDoor.Ix

namespace Go.Proofs.YtfoenhiohhmnlaaGreatDoor.Ix
structure SecOK (n : Nat) (lf df : Nat → Int) (r c t tip w s p : Int) : Prop where
  n0 : 1 ≤ n
  n1 : n ≤ 32
  lf0 : ∀ i, i < n → 0 ≤ lf i ∧ lf i ≤ 1000
  lfm : ∀ i, i < n → lf (i - 1) ≤ lf i
  df0 : ∀ i, i < n → 0 ≤ df i ∧ df i ≤ 1000
  r : 1 ≤ r ∧ r ≤ 200
  c : 1 ≤ c ∧ c ≤ 100
  t : -64 ≤ t ∧ t ≤ 64
  tip : 0 ≤ tip ∧ tip ≤ 256
  w : 1 ≤ w ∧ w ≤ 50
  s : 1 ≤ s ∧ s ≤ 1000
  p : -64 ≤ p ∧ p ≤ 64
def inflP (r w s a : Int) (d : Nat) : Int := 1024 * (2 ^ d - a) * w / (2 ^ d * s * r)
def clsP (n : Nat) (t p x : Int) : Int := min (max 0 (x - (t + p))) (n - 1)
def balP (n : Nat) (lf : Nat → Int) (r c t tip w s p a : Int) (d : Nat) : Int :=
  1024 * a * (2 ^ d - a) * r - 2 ^ d * 2 ^ d * c * tip * lf (clsP n t p (inflP r w s a d)).toNat
theorem two_pos (d : Nat) : (0 : Int) < 2 ^ d := Int.pow_pos (by decide)
theorem inflP_dbl (r w s a : Int) (d : Nat) : inflP r w s (2 * a) (d + 1) = inflP r w s a d := by
  unfold inflP
  rw [Int.pow_succ]
  rw [show 1024 * ((2 : Int) ^ d * 2 - 2 * a) * w = 2 * (1024 * (2 ^ d - a) * w) by grind, show (2 : Int) ^ d * 2 * s * r = 2 * (2 ^ d * s * r) by grind]
  exact Int.mul_ediv_mul_of_pos _ _ (by decide)
theorem balP_dbl (n : Nat) (lf : Nat → Int) (r c t tip w s p a : Int) (d : Nat) : balP n lf r c t tip w s p (2 * a) (d + 1) = 4 * balP n lf r c t tip w s p a d := by
  unfold balP
  rw [inflP_dbl, Int.pow_succ]
  generalize lf _ = l
  grind
variable {n : Nat} {lf df : Nat → Int} {r c t tip w s p : Int}
theorem den_pos (h : SecOK n lf df r c t tip w s p) (d : Nat) : 0 < 2 ^ d * s * r :=
  Int.mul_pos (Int.mul_pos (two_pos d) (by have := h.s; omega)) (by have := h.r; omega)
theorem inflP_mono (h : SecOK n lf df r c t tip w s p) {a b : Int} {d : Nat} (hab : a ≤ b) : inflP r w s b d ≤ inflP r w s a d := by
  unfold inflP
  refine Int.ediv_le_ediv (den_pos h d) (Int.mul_le_mul_of_nonneg_right (by omega) (by have := h.w; omega))
theorem inflP_nonneg (h : SecOK n lf df r c t tip w s p) {a : Int} {d : Nat} (ha : a ≤ 2 ^ d) : 0 ≤ inflP r w s a d := by
  unfold inflP
  exact Int.ediv_nonneg (Int.mul_nonneg (by omega) (by have := h.w; omega)) (Int.le_of_lt (den_pos h d))
theorem inflP_le (h : SecOK n lf df r c t tip w s p) {a : Int} {d : Nat} (ha : 0 ≤ a) : inflP r w s a d ≤ 51200 := by
  unfold inflP
  refine Int.ediv_le_of_le_mul (den_pos h d) ?_
  have hp := two_pos d
  have h1 : (2 ^ d - a) * w ≤ 2 ^ d * 50 := by
    have h2 : (2 ^ d - a) * w ≤ 2 ^ d * w := Int.mul_le_mul_of_nonneg_right (by omega) (by have := h.w; omega)
    have h3 : (2 : Int) ^ d * w ≤ 2 ^ d * 50 := Int.mul_le_mul_of_nonneg_left h.w.2 (by omega)
    omega
  have h4 : (2 : Int) ^ d * 1 ≤ 2 ^ d * (s * r) := Int.mul_le_mul_of_nonneg_left (by have := Int.mul_pos (show 0 < s by have := h.s; omega) (show 0 < r by have := h.r; omega); omega) (by omega)
  have e1 : 1024 * (2 ^ d - a) * w = 1024 * ((2 ^ d - a) * w) := by grind
  have e2 : (2 : Int) ^ d * s * r = 2 ^ d * (s * r) := by grind
  rw [e1, e2]; omega
theorem clsP_lo (h : SecOK n lf df r c t tip w s p) (x : Int) : 0 ≤ clsP n t p x ∧ clsP n t p x < n := by
  have := h.n0
  unfold clsP; omega
theorem lf_mono (h : SecOK n lf df r c t tip w s p) {j : Nat} : ∀ {i : Nat}, i ≤ j → j < n → lf i ≤ lf j := by
  induction j with
  | zero => intro i hi _; rw [show i = 0 by omega]; exact Int.le_refl _
  | succ j ih =>
    intro i hi hj
    by_cases e : i = j + 1
    · rw [e]; exact Int.le_refl _
    · exact Int.le_trans (ih (by omega) (by omega)) (by simpa using h.lfm (j + 1) hj)
theorem par_mono {a b D : Int} (h : a ≤ b) (h2 : a + b ≤ D) : a * (D - a) ≤ b * (D - b) := by
  have := Int.mul_nonneg (show 0 ≤ b - a by omega) (show 0 ≤ D - a - b by omega)
  grind
theorem lfcls_mono (h : SecOK n lf df r c t tip w s p) {x y : Int} (hxy : x ≤ y) : lf (clsP n t p x).toNat ≤ lf (clsP n t p y).toNat := by
  have h1 := clsP_lo h x
  have h2 := clsP_lo h y
  refine lf_mono h ?_ (by omega)
  have : clsP n t p x ≤ clsP n t p y := by unfold clsP; omega
  omega
theorem balP_mono (h : SecOK n lf df r c t tip w s p) {a b : Int} {d : Nat} (hab : a ≤ b) (h2 : a + b ≤ 2 ^ d) : balP n lf r c t tip w s p a d ≤ balP n lf r c t tip w s p b d := by
  unfold balP
  have h3 := lfcls_mono h (inflP_mono h (d := d) hab)
  have h4 : 1024 * (a * (2 ^ d - a)) * r ≤ 1024 * (b * (2 ^ d - b)) * r := Int.mul_le_mul_of_nonneg_right (by have := par_mono hab h2; omega) (by have := h.r; omega)
  have hq : 0 ≤ (2 : Int) ^ d * 2 ^ d * c * tip := Int.mul_nonneg (Int.mul_nonneg (Int.mul_nonneg (Int.le_of_lt (two_pos d)) (Int.le_of_lt (two_pos d))) (by have := h.c; omega)) h.tip.1
  have h5 := Int.mul_le_mul_of_nonneg_left h3 hq
  have e1 : 1024 * a * (2 ^ d - a) * r = 1024 * (a * (2 ^ d - a)) * r := by grind
  have e2 : 1024 * b * (2 ^ d - b) * r = 1024 * (b * (2 ^ d - b)) * r := by grind
  rw [e1, e2]; omega
theorem balP_zero (h : SecOK n lf df r c t tip w s p) (d : Nat) : balP n lf r c t tip w s p 0 d ≤ 0 := by
  unfold balP
  have hc := clsP_lo h (inflP r w s 0 d)
  have hq : 0 ≤ (2 : Int) ^ d * 2 ^ d * c * tip := Int.mul_nonneg (Int.mul_nonneg (Int.mul_nonneg (Int.le_of_lt (two_pos d)) (Int.le_of_lt (two_pos d))) (by have := h.c; omega)) h.tip.1
  have := Int.mul_nonneg hq (h.lf0 (clsP n t p (inflP r w s 0 d)).toNat (by omega)).1
  simp; exact this
def IsBr (f : Int → Int) (half a : Int) : Prop := 0 ≤ a ∧ a < half ∧ f a ≤ 0 ∧ 0 < f (a + 1)
theorem IsBr.uniq (h : SecOK n lf df r c t tip w s p) {d : Nat} {a b : Int} (ha : IsBr (fun a => balP n lf r c t tip w s p a (d + 1)) (2 ^ d) a) (hb : IsBr (fun a => balP n lf r c t tip w s p a (d + 1)) (2 ^ d) b) : a = b := by
  obtain ⟨a1, a2, a3, a4⟩ := ha
  obtain ⟨b1, b2, b3, b4⟩ := hb
  simp only at a3 a4 b3 b4
  have hp := Int.pow_succ (2 : Int) d
  rcases Int.lt_trichotomy a b with hl | e | hl
  · have := balP_mono h (d := d + 1) (show a + 1 ≤ b by omega) (by omega)
    omega
  · exact e
  · have := balP_mono h (d := d + 1) (show b + 1 ≤ a by omega) (by omega)
    omega
theorem IsBr.finer {d : Nat} {a : Int} (ha : IsBr (fun a => balP n lf r c t tip w s p a (d + 1)) (2 ^ d) a) :
    IsBr (fun a => balP n lf r c t tip w s p a (d + 1 + 1)) (2 ^ (d + 1)) (if 0 < balP n lf r c t tip w s p (2 * a + 1) (d + 1 + 1) then 2 * a else 2 * a + 1) := by
  obtain ⟨a1, a2, a3, a4⟩ := ha
  simp only at a3 a4
  have e0 := balP_dbl n lf r c t tip w s p a (d + 1)
  have e1 := balP_dbl n lf r c t tip w s p (a + 1) (d + 1)
  rw [show 2 * (a + 1) = 2 * a + 1 + 1 by omega] at e1
  have hp := Int.pow_succ (2 : Int) d
  unfold IsBr
  simp only
  split <;> (refine ⟨by omega, by omega, by omega, ?_⟩)
  · assumption
  · omega
def ofP (n : Nat) (lf df : Nat → Int) (r c t tip p x : Int) : Int :=
  r * c * tip * (x * lf (clsP n t p x).toNat - 1024 * df (clsP n t p x).toNat)
def stepsP (n : Nat) (lf df : Nat → Int) (r c t tip p least most : Int) : Nat → Int × Int
  | 0 => (min (ofP n lf df r c t tip p least) (ofP n lf df r c t tip p most), max (ofP n lf df r c t tip p least) (ofP n lf df r c t tip p most))
  | k + 1 =>
    let o := stepsP n lf df r c t tip p least most k
    let j := t + p + k - 1
    if j > least ∧ j < most then (min o.1 (ofP n lf df r c t tip p j), max o.2 (ofP n lf df r c t tip p j)) else o
variable {least most : Int}
theorem stepsP_in (hlm : least ≤ most) : ∀ k, ∃ i j, least ≤ i ∧ i ≤ most ∧ least ≤ j ∧ j ≤ most ∧ (stepsP n lf df r c t tip p least most k).1 = ofP n lf df r c t tip p i ∧ (stepsP n lf df r c t tip p least most k).2 = ofP n lf df r c t tip p j
  | 0 => by
    simp only [stepsP]
    generalize ha : ofP n lf df r c t tip p least = a
    generalize hb : ofP n lf df r c t tip p most = b
    by_cases e : a ≤ b
    · exact ⟨least, most, by omega, by omega, by omega, by omega, by omega, by omega⟩
    · exact ⟨most, least, by omega, by omega, by omega, by omega, by omega, by omega⟩
  | k + 1 => by
    obtain ⟨i, j, h1, h2, h3, h4, h5, h6⟩ := stepsP_in hlm k
    simp only [stepsP]
    split
    · rename_i hq
      generalize t + p + (k : Int) - 1 = q at hq ⊢
      obtain ⟨i', hi', e1⟩ : ∃ i', (least ≤ i' ∧ i' ≤ most) ∧ min (stepsP n lf df r c t tip p least most k).1 (ofP n lf df r c t tip p q) = ofP n lf df r c t tip p i' := by
        by_cases e : (stepsP n lf df r c t tip p least most k).1 ≤ ofP n lf df r c t tip p q
        · exact ⟨i, ⟨h1, h2⟩, by omega⟩
        · exact ⟨q, by omega, by omega⟩
      obtain ⟨j', hj', e2⟩ : ∃ j', (least ≤ j' ∧ j' ≤ most) ∧ max (stepsP n lf df r c t tip p least most k).2 (ofP n lf df r c t tip p q) = ofP n lf df r c t tip p j' := by
        by_cases e : (stepsP n lf df r c t tip p least most k).2 ≤ ofP n lf df r c t tip p q
        · exact ⟨q, by omega, by omega⟩
        · exact ⟨j, ⟨h3, h4⟩, by omega⟩
      exact ⟨i', j', hi'.1, hi'.2, hj'.1, hj'.2, e1, e2⟩
    · exact ⟨i, j, h1, h2, h3, h4, h5, h6⟩
def torqueP (n : Nat) (lf df : Nat → Int) (r c t tip w s p a : Int) (d : Nat) : Int × Int :=
  stepsP n lf df r c t tip p (inflP r w s (a + 1) d) (inflP r w s a d) (n + 2)
def thrustP (r k : Int) (d : Nat) : Int := 1024 * k * (2 ^ d - k) * r
end Go.Proofs.YtfoenhiohhmnlaaGreatDoor.Ix

namespace Go.Proofs.YtfoenhiohhmnlaaGreatDoor.Ix
theorem mulB {x y A B : Int} (h1 : 0 ≤ x) (h2 : x ≤ A) (h3 : 0 ≤ y) (h4 : y ≤ B) : 0 ≤ x * y ∧ x * y ≤ A * B := by
  refine ⟨Int.mul_nonneg h1 h3, ?_⟩
  have g1 := Int.mul_le_mul_of_nonneg_right h2 h3
  have g2 := Int.mul_le_mul_of_nonneg_left h4 (show 0 ≤ A by omega)
  omega
theorem pow_le12 {d : Nat} (h : d ≤ 12) : (2 : Int) ^ d ≤ 4096 := by
  have : d = 0 ∨ d = 1 ∨ d = 2 ∨ d = 3 ∨ d = 4 ∨ d = 5 ∨ d = 6 ∨ d = 7 ∨ d = 8 ∨ d = 9 ∨ d = 10 ∨ d = 11 ∨ d = 12 := by omega
  rcases this with h|h|h|h|h|h|h|h|h|h|h|h|h <;> subst h <;> decide
variable {n : Nat} {lf df : Nat → Int} {r c t tip w s p : Int}
theorem wholeW_eq {d : Nat} (h : d ≤ 12) : wholeW d = 2 ^ d := by
  unfold wholeW
  have h1 := two_pos d
  have h2 := pow_le12 h
  rw [show min (d : Int).toNat 64 = d by omega, Int.one_mul, w64, wrap_in] <;> omega
theorem halfW_eq {d : Nat} (h : d ≤ 12) (h1 : 1 ≤ d) : halfW d = 2 ^ (d - 1) := by
  unfold halfW
  have e : w64 ((d : Int) - 1) = ((d - 1 : Nat) : Int) := by rw [w64, wrap_in] <;> omega
  rw [e]
  exact wholeW_eq (d := d - 1) (by omega)
theorem denW_eq (h : SecOK n lf df r c t tip w s p) {d : Nat} (hd : d ≤ 12) : denW r s d = 2 ^ d * s * r := by
  unfold denW
  rw [wholeW_eq hd]
  have h1 := two_pos d
  have h2 := pow_le12 hd
  have hs := h.s
  have hr := h.r
  have b1 := mulB (x := 2 ^ d) (y := s) (A := 4096) (B := 1000) (by omega) h2 (by omega) (by omega)
  have b2 := mulB (x := 2 ^ d * s) (y := r) (A := 4096 * 1000) (B := 200) b1.1 b1.2 (by omega) (by omega)
  have e1 : w64 (2 ^ d * s) = 2 ^ d * s := by rw [w64, wrap_in] <;> omega
  rw [e1, w64, wrap_in] <;> omega
theorem inflowW_eq (h : SecOK n lf df r c t tip w s p) {a : Int} {d : Nat} (hd : d ≤ 12) (h0 : 0 ≤ a) (h1 : a ≤ 2 ^ d) : inflowW r w s a d = inflP r w s a d := by
  unfold inflowW
  rw [denW_eq h hd, wholeW_eq hd]
  have q1 := two_pos d
  have q2 := pow_le12 hd
  have hw := h.w
  have e1 : w64 (2 ^ d - a) = 2 ^ d - a := by rw [w64, wrap_in] <;> omega
  have e2 : w64 (1024 * (2 ^ d - a)) = 1024 * (2 ^ d - a) := by rw [w64, wrap_in] <;> omega
  have b1 := mulB (x := 1024 * (2 ^ d - a)) (y := w) (A := 1024 * 4096) (B := 50) (by omega) (by omega) (by omega) (by omega)
  have e3 : w64 (1024 * (2 ^ d - a) * w) = 1024 * (2 ^ d - a) * w := by rw [w64, wrap_in] <;> omega
  rw [e1, e2, e3, Int.tdiv_eq_ediv_of_nonneg b1.1]
  show w64 (inflP r w s a d) = _
  have g1 := inflP_nonneg h h1
  have g2 := inflP_le h (d := d) h0
  rw [w64, wrap_in] <;> omega
theorem minW_eq (a b : Int) : minW a b = min a b := by unfold minW; omega
theorem maxW_eq (a b : Int) : maxW a b = max a b := by unfold maxW; omega
theorem classW_eq (h : SecOK n lf df r c t tip w s p) {x : Int} (h1 : -1000000 ≤ x) (h2 : x ≤ 1000000) : classW n t p x = clsP n t p x := by
  unfold classW clsP
  have ht := h.t
  have hp := h.p
  have hn := h.n1
  have e1 : w64 (t + p) = t + p := by rw [w64, wrap_in] <;> omega
  rw [e1]
  have e2 : w64 (x - (t + p)) = x - (t + p) := by rw [w64, wrap_in] <;> omega
  have e3 : w64 ((n : Int) - 1) = n - 1 := by rw [w64, wrap_in] <;> omega
  rw [e2, e3, minW_eq, maxW_eq]
theorem infl_class (h : SecOK n lf df r c t tip w s p) {a : Int} {d : Nat} (hd : d ≤ 12) (h0 : 0 ≤ a) (h1 : a ≤ 2 ^ d) : classW n t p (inflowW r w s a d) = clsP n t p (inflP r w s a d) := by
  rw [inflowW_eq h hd h0 h1]
  have g1 := inflP_nonneg h h1
  have g2 := inflP_le h (d := d) h0
  exact classW_eq h (by omega) (by omega)
theorem balOK (h : SecOK n lf df r c t tip w s p) {a : Int} {d : Nat} (hd : d ≤ 12) (h0 : 0 ≤ a) (h1 : a ≤ 2 ^ d) : BalOK n r t w s p a d := by
  have hc := clsP_lo h (inflP r w s a d)
  refine ⟨by omega, ?_, ?_, ?_⟩
  · rw [denW_eq h hd]; have := den_pos h d; omega
  · rw [infl_class h hd h0 h1]; exact hc.1
  · rw [infl_class h hd h0 h1]; exact hc.2
theorem balanceW_eq (h : SecOK n lf df r c t tip w s p) {a : Int} {d : Nat} (hd : d ≤ 12) (h0 : 0 ≤ a) (h1 : a ≤ 2 ^ d) : balanceW n lf r c t tip w s p a d = balP n lf r c t tip w s p a d := by
  unfold balanceW balP
  rw [infl_class h hd h0 h1, wholeW_eq hd]
  have q1 := two_pos d
  have q2 := pow_le12 hd
  have hc := clsP_lo h (inflP r w s a d)
  have hl := h.lf0 (clsP n t p (inflP r w s a d)).toNat (by omega)
  have hr := h.r
  have hcc := h.c
  have htip := h.tip
  generalize lf (clsP n t p (inflP r w s a d)).toNat = l at *
  have e0 : w64 (1024 * a) = 1024 * a := by rw [w64, wrap_in] <;> omega
  have e1 : w64 (2 ^ d - a) = 2 ^ d - a := by rw [w64, wrap_in] <;> omega
  have b1 := mulB (x := 1024 * a) (y := 2 ^ d - a) (A := 1024 * 4096) (B := 4096) (by omega) (by omega) (by omega) (by omega)
  have e2 : w64 (1024 * a * (2 ^ d - a)) = 1024 * a * (2 ^ d - a) := by rw [w64, wrap_in] <;> omega
  have b2 := mulB (x := 1024 * a * (2 ^ d - a)) (y := r) (A := 1024 * 4096 * 4096) (B := 200) b1.1 b1.2 (by omega) (by omega)
  have e3 : w64 (1024 * a * (2 ^ d - a) * r) = 1024 * a * (2 ^ d - a) * r := by rw [w64, wrap_in] <;> omega
  have b3 := mulB (x := 2 ^ d) (y := 2 ^ d) (A := 4096) (B := 4096) (by omega) (by omega) (by omega) (by omega)
  have e4 : w64 ((2 : Int) ^ d * 2 ^ d) = 2 ^ d * 2 ^ d := by rw [w64, wrap_in] <;> omega
  have b4 := mulB (x := 2 ^ d * 2 ^ d) (y := c) (A := 4096 * 4096) (B := 100) b3.1 b3.2 (by omega) (by omega)
  have e5 : w64 ((2 : Int) ^ d * 2 ^ d * c) = 2 ^ d * 2 ^ d * c := by rw [w64, wrap_in] <;> omega
  have b5 := mulB (x := 2 ^ d * 2 ^ d * c) (y := tip) (A := 4096 * 4096 * 100) (B := 256) b4.1 b4.2 (by omega) (by omega)
  have e6 : w64 ((2 : Int) ^ d * 2 ^ d * c * tip) = 2 ^ d * 2 ^ d * c * tip := by rw [w64, wrap_in] <;> omega
  have b6 := mulB (x := 2 ^ d * 2 ^ d * c * tip) (y := l) (A := 4096 * 4096 * 100 * 256) (B := 1000) b5.1 b5.2 (by omega) (by omega)
  have e7 : w64 ((2 : Int) ^ d * 2 ^ d * c * tip * l) = 2 ^ d * 2 ^ d * c * tip * l := by rw [w64, wrap_in] <;> omega
  rw [e0, e1, e2, e3, e4, e5, e6, e7, w64, wrap_in] <;> omega
theorem ofP_bound (h : SecOK n lf df r c t tip w s p) {x : Int} (h1 : -100000 ≤ x) (h2 : x ≤ 100000) : -1000000000000000 ≤ ofP n lf df r c t tip p x ∧ ofP n lf df r c t tip p x ≤ 1000000000000000 ∧ ofW n lf df r c t tip p x = ofP n lf df r c t tip p x := by
  unfold ofP ofW
  rw [classW_eq h (by omega) (by omega)]
  have hc := clsP_lo h x
  have hl := h.lf0 (clsP n t p x).toNat (by omega)
  have hd := h.df0 (clsP n t p x).toNat (by omega)
  have hr := h.r
  have hcc := h.c
  have htip := h.tip
  generalize lf (clsP n t p x).toNat = l at *
  generalize df (clsP n t p x).toNat = g at *
  have b1 := mulB (x := r) (y := c) (A := 200) (B := 100) (by omega) (by omega) (by omega) (by omega)
  have e1 : w64 (r * c) = r * c := by rw [w64, wrap_in] <;> omega
  have b2 := mulB (x := r * c) (y := tip) (A := 200 * 100) (B := 256) b1.1 b1.2 (by omega) (by omega)
  have e2 : w64 (r * c * tip) = r * c * tip := by rw [w64, wrap_in] <;> omega
  have b3 : -(100000 * 1000) ≤ x * l ∧ x * l ≤ 100000 * 1000 := by
    by_cases hx : 0 ≤ x
    · have := mulB (x := x) (y := l) (A := 100000) (B := 1000) hx h2 (by omega) (by omega); omega
    · have := mulB (x := -x) (y := l) (A := 100000) (B := 1000) (by omega) (by omega) (by omega) (by omega)
      rw [Int.neg_mul] at this; omega
  have e3 : w64 (x * l) = x * l := by rw [w64, wrap_in] <;> omega
  have e4 : w64 (1024 * g) = 1024 * g := by rw [w64, wrap_in] <;> omega
  have e5 : w64 (x * l - 1024 * g) = x * l - 1024 * g := by rw [w64, wrap_in] <;> omega
  rw [e1, e2, e3, e4, e5]
  have hy : -110000000 ≤ x * l - 1024 * g ∧ x * l - 1024 * g ≤ 110000000 := by omega
  generalize r * c * tip = q at *
  generalize x * l - 1024 * g = y at *
  have b6 : -(5120000 * 110000000) ≤ q * y ∧ q * y ≤ 5120000 * 110000000 := by
    by_cases hx : 0 ≤ y
    · have := mulB (x := q) (y := y) (A := 5120000) (B := 110000000) b2.1 (by omega) hx (by omega); omega
    · have := mulB (x := q) (y := -y) (A := 5120000) (B := 110000000) b2.1 (by omega) (by omega) (by omega)
      rw [Int.mul_neg] at this; omega
  refine ⟨by omega, by omega, ?_⟩
  rw [w64, wrap_in] <;> omega
theorem thrustP_bound (h : SecOK n lf df r c t tip w s p) {a : Int} {d : Nat} (hd : d ≤ 12) (h0 : 0 ≤ a) (h1 : a ≤ 2 ^ d) : 0 ≤ thrustP r a d ∧ thrustP r a d ≤ 1000000000000000 ∧ w64 (w64 (w64 (1024 * a) * w64 (wholeW d - a)) * r) = thrustP r a d := by
  unfold thrustP
  rw [wholeW_eq hd]
  have q1 := two_pos d
  have q2 := pow_le12 hd
  have hr := h.r
  have e0 : w64 (1024 * a) = 1024 * a := by rw [w64, wrap_in] <;> omega
  have e1 : w64 (2 ^ d - a) = 2 ^ d - a := by rw [w64, wrap_in] <;> omega
  have b1 := mulB (x := 1024 * a) (y := 2 ^ d - a) (A := 1024 * 4096) (B := 4096) (by omega) (by omega) (by omega) (by omega)
  have e2 : w64 (1024 * a * (2 ^ d - a)) = 1024 * a * (2 ^ d - a) := by rw [w64, wrap_in] <;> omega
  have b2 := mulB (x := 1024 * a * (2 ^ d - a)) (y := r) (A := 1024 * 4096 * 4096) (B := 200) b1.1 b1.2 (by omega) (by omega)
  rw [e0, e1, e2]
  refine ⟨b2.1, by omega, ?_⟩
  rw [w64, wrap_in] <;> omega
theorem searchS_br (f : Int → Int) : ∀ (m : Nat) (lo hi : Int), lo < hi → hi - lo ≤ m → f lo ≤ 0 → 0 < f hi →
    lo ≤ searchS f m lo hi ∧ searchS f m lo hi < hi ∧ f (searchS f m lo hi) ≤ 0 ∧ 0 < f (searchS f m lo hi + 1)
  | 0, lo, hi, h1, h2, _, _ => by omega
  | m + 1, lo, hi, h1, h2, h3, h4 => by
    simp only [searchS]
    by_cases e : hi - lo > 1
    · rw [decide_eq_true e, cond_true]
      by_cases e2 : f ((lo + hi) / 2) ≤ 0
      · rw [decide_eq_true e2, cond_true]
        have := searchS_br f m ((lo + hi) / 2) hi (by omega) (by omega) e2 h4
        exact ⟨by omega, this.2⟩
      · rw [decide_eq_false e2, cond_false]
        have := searchS_br f m lo ((lo + hi) / 2) (by omega) (by omega) h3 (by omega)
        exact ⟨this.1, by omega, this.2.2⟩
    · rw [decide_eq_false e, cond_false]
      exact ⟨Int.le_refl _, h1, h3, by rw [show lo + 1 = hi by omega]; exact h4⟩
theorem searchS_congr {f g : Int → Int} : ∀ (m : Nat) (lo hi : Int), (∀ a, lo ≤ a → a ≤ hi → f a = g a) → searchS f m lo hi = searchS g m lo hi
  | 0, lo, hi, _ => rfl
  | m + 1, lo, hi, h => by
    simp only [searchS]
    by_cases e : hi - lo > 1
    · rw [decide_eq_true e, cond_true, cond_true, h ((lo + hi) / 2) (by omega) (by omega)]
      rw [searchS_congr m _ hi (fun a h1 h2 => h a (by omega) h2), searchS_congr m lo _ (fun a h1 h2 => h a h1 (by omega))]
    · rw [decide_eq_false e, cond_false, cond_false]
def brP (n : Nat) (lf : Nat → Int) (r c t tip w s p : Int) (d : Nat) : Option Int := findS (fun a => balP n lf r c t tip w s p a (d + 1)) (2 ^ d)
theorem brP_some (h : SecOK n lf df r c t tip w s p) {d : Nat} {a : Int} : brP n lf r c t tip w s p d = some a ↔ IsBr (fun a => balP n lf r c t tip w s p a (d + 1)) (2 ^ d) a := by
  have key : 0 < balP n lf r c t tip w s p (2 ^ d) (d + 1) → IsBr (fun a => balP n lf r c t tip w s p a (d + 1)) (2 ^ d) (searchS (fun a => balP n lf r c t tip w s p a (d + 1)) (2 ^ d : Int).toNat 0 (2 ^ d)) := by
    intro hp
    exact searchS_br (fun a => balP n lf r c t tip w s p a (d + 1)) _ 0 (2 ^ d) (two_pos d) (by have := two_pos d; omega) (balP_zero h _) hp
  constructor
  · intro hb
    unfold brP findS at hb
    by_cases e : balP n lf r c t tip w s p (2 ^ d) (d + 1) ≤ 0
    · simp [e] at hb
    · simp [e] at hb
      rw [← hb]; exact key (by omega)
  · intro hb
    have hp : 0 < balP n lf r c t tip w s p (2 ^ d) (d + 1) := by
      have := balP_mono h (a := a + 1) (b := 2 ^ d) (d := d + 1) (by have := hb.2.1; omega) (by have := hb.2.1; rw [Int.pow_succ]; omega)
      have := hb.2.2.2
      simp only at this; omega
    unfold brP findS
    have e : ¬ balP n lf r c t tip w s p (2 ^ d) (d + 1) ≤ 0 := by omega
    simp only [e, decide_false, cond_false]
    rw [(key hp).uniq h hb]
end Go.Proofs.YtfoenhiohhmnlaaGreatDoor.Ix

namespace Go.Proofs.YtfoenhiohhmnlaaGreatDoor.Ix
def orE (a b : Int) : Int := bif a != 0 then a else b
theorem orE_zero {a b : Int} : orE a b = 0 ↔ a = 0 ∧ b = 0 := by
  unfold orE
  by_cases h : a = 0
  · simp [h]
  · have : (a != 0) = true := by simpa using h
    simp [this, h]
theorem orE_right (a : Int) : orE a 0 = a := by
  unfold orE
  by_cases h : a = 0
  · simp [h]
  · have : (a != 0) = true := by simpa using h
    simp [this]
theorem orE_assoc (a b c : Int) : orE (orE a b) c = orE a (orE b c) := by
  unfold orE
  by_cases h : a = 0
  · simp [h]
  · have : (a != 0) = true := by simpa using h
    simp [this]
theorem firstS_zero (f : Nat → Int) : ∀ (n i : Nat), firstS f n i = 0 ↔ ∀ j, i ≤ j → j < i + n → f j = 0
  | 0, i => by simp [firstS]; intro j h1 h2; omega
  | n + 1, i => by
    have ih := firstS_zero f n (i + 1)
    show orE (f i) (firstS f n (i + 1)) = 0 ↔ _
    rw [orE_zero, ih]
    constructor
    · rintro ⟨h1, h2⟩ j g1 g2
      by_cases e : j = i
      · rw [e]; exact h1
      · exact h2 j (by omega) (by omega)
    · intro h
      exact ⟨h i (by omega) (by omega), fun j g1 g2 => h j (by omega) (by omega)⟩
theorem firstS_congr {f g : Nat → Int} : ∀ (n i : Nat), (∀ j, i ≤ j → j < i + n → f j = g j) → firstS f n i = firstS g n i
  | 0, _, _ => rfl
  | n + 1, i, h => by
    simp only [firstS]
    rw [h i (by omega) (by omega), firstS_congr n (i + 1) (fun j h1 h2 => h j (by omega) (by omega))]
theorem withinS_zero {n lo hi : Int} : withinS n lo hi = 0 ↔ lo ≤ n ∧ n ≤ hi := by
  unfold withinS
  by_cases h1 : n < lo
  · simp [h1]; (try omega)
  · by_cases h2 : n > hi
    · simp [h2]; (try omega)
    · simp [h1, h2]; (try omega)
theorem bif_zero {b : Bool} {e : Int} (he : e ≠ 0) : (bif b then e else 0) = 0 ↔ b = false := by
  cases b <;> simp [he]
def polarS (nl : Nat) (lf : Nat → Int) (nd : Nat) (df : Nat → Int) : Int :=
  orE (bif (nl : Int) == 0 then 12 else 0) (orE (bif decide ((nl : Int) > 32) then 5 else 0) (orE (bif (nd : Int) != nl then 2 else 0)
    (orE (firstS (fun i => orE (withinS (lf i) 0 1000) (bif decide (lf i < lf (i - 1)) then 11 else 0)) nl 0) (firstS (fun i => withinS (df i) 0 1000) nd 0))))
def ringS (r c t tip : Int) : Int := orE (withinS r 1 200) (orE (withinS c 1 100) (orE (withinS t (-64) 64) (withinS tip 0 256)))
def ringAt (r1 r2 r3 r4 : Nat → Int) (i : Nat) : Int := orE (ringS (r1 i) (r2 i) (r3 i) (r4 i)) (bif decide (0 < i) && decide (r1 i ≤ r1 (i - 1)) then 11 else 0)
def bladeS (nl : Nat) (lf : Nat → Int) (nd : Nat) (df : Nat → Int) (nr : Nat) (r1 r2 r3 r4 : Nat → Int) : Int :=
  orE (polarS nl lf nd df) (orE (bif (nr : Int) == 0 then 12 else 0) (orE (bif decide ((nr : Int) > 16) then 5 else 0) (firstS (ringAt r1 r2 r3 r4) nr 0)))
def flowS (w s p : Int) : Int := orE (withinS w 1 50) (orE (withinS s 1 1000) (withinS p (-64) 64))
variable {nl nd nr : Nat} {lf df r1 r2 r3 r4 : Nat → Int} {w s p : Int}
theorem bladeS_ok (hb : bladeS nl lf nd df nr r1 r2 r3 r4 = 0) (hf : flowS w s p = 0) :
    nd = nl ∧ 1 ≤ nr ∧ nr ≤ 16 ∧ ∀ i, i < nr → SecOK nl lf df (r1 i) (r2 i) (r3 i) (r4 i) w s p := by
  simp only [bladeS, polarS, flowS, orE_zero, firstS_zero, withinS_zero, ringAt, ringS] at hb hf
  obtain ⟨⟨h1, h2, h3, h4, h5⟩, h6, h7, h8⟩ := hb
  rw [bif_zero (by decide)] at h1 h2 h3 h6 h7
  simp at h1 h2 h3 h6 h7
  refine ⟨by omega, by omega, by omega, fun i hi => ?_⟩
  have h3' : nd = nl := by omega
  have h9 := h8 i (by omega) (by omega)
  refine ⟨by omega, by omega, fun j hj => (h4 j (by omega) (by omega)).1, fun j hj => ?_, fun j hj => h5 j (by omega) (by omega), h9.1.1, h9.1.2.1, h9.1.2.2.1, h9.1.2.2.2, hf.1, hf.2.1, hf.2.2⟩
  have := (h4 j (by omega) (by omega)).2
  rw [bif_zero (by decide)] at this
  simp at this; omega
end Go.Proofs.YtfoenhiohhmnlaaGreatDoor.Ix

namespace Go.Proofs.YtfoenhiohhmnlaaGreatDoor.Ix
structure Bl where
  nl : Nat
  nd : Nat
  nr : Nat
  lf : Nat → Int
  df : Nat → Int
  r1 : Nat → Int
  r2 : Nat → Int
  r3 : Nat → Int
  r4 : Nat → Int
structure Fl where
  w : Int
  s : Int
  p : Int
abbrev bladeI (nl nd nr : Nat) (lf df r1 r2 r3 r4 : Nat → Int) : IV :=
  .agg [.lst none 1 nl fun i => [.int .i64 (lf i)], .lst none 1 nd fun i => [.int .i64 (df i)], .lst none 4 nr fun i => [.int .i64 (r1 i), .int .i64 (r2 i), .int .i64 (r3 i), .int .i64 (r4 i)]]
abbrev flowI (w s p : Int) : IV := .agg [.int .i64 w, .int .i64 s, .int .i64 p]
abbrev Bl.iv (b : Bl) : IV := bladeI b.nl b.nd b.nr b.lf b.df b.r1 b.r2 b.r3 b.r4
abbrev Fl.iv (f : Fl) : IV := flowI f.w f.s f.p
def Bl.err (b : Bl) : Int := bladeS b.nl b.lf b.nd b.df b.nr b.r1 b.r2 b.r3 b.r4
def Fl.err (f : Fl) : Int := flowS f.w f.s f.p
def Bl.ok (b : Bl) (f : Fl) (i : Nat) : Prop := SecOK b.nl b.lf b.df (b.r1 i) (b.r2 i) (b.r3 i) (b.r4 i) f.w f.s f.p
def Bl.bal (b : Bl) (f : Fl) (i : Nat) (a : Int) (d : Nat) : Int := balP b.nl b.lf (b.r1 i) (b.r2 i) (b.r3 i) (b.r4 i) f.w f.s f.p a d
def Bl.br (b : Bl) (f : Fl) (i : Nat) (d : Nat) : Option Int := brP b.nl b.lf (b.r1 i) (b.r2 i) (b.r3 i) (b.r4 i) f.w f.s f.p d
def Bl.tor (b : Bl) (f : Fl) (i : Nat) (a : Int) (d : Nat) : Int × Int := torqueP b.nl b.lf b.df (b.r1 i) (b.r2 i) (b.r3 i) (b.r4 i) f.w f.s f.p a d
def Bl.thr (b : Bl) (i : Nat) (a : Int) (d : Nat) : Int × Int := (thrustP (b.r1 i) a d, thrustP (b.r1 i) (a + 1) d)
theorem Bl.good {b : Bl} {f : Fl} (hb : b.err = 0) (hf : f.err = 0) : b.nd = b.nl ∧ 1 ≤ b.nr ∧ b.nr ≤ 16 ∧ ∀ i, i < b.nr → b.ok f i := bladeS_ok hb hf
def ringErr (b : Bl) (f : Fl) (ring : Int) : Int := orE b.err (orE f.err (bif decide (ring < 0) || decide (ring ≥ b.nr) then 10 else 0))
def indErr (a d : Int) : Int := orE (withinS d 1 12) (withinS a 0 (2 ^ (d - 1).toNat))
def allErr (b : Bl) (f : Fl) (d : Int) : Int := orE b.err (orE f.err (withinS d 1 12))
theorem ringErr_ok {b : Bl} {f : Fl} {ring : Int} (h : ringErr b f ring = 0) : b.err = 0 ∧ f.err = 0 ∧ 0 ≤ ring ∧ ring < b.nr := by
  unfold ringErr at h
  simp only [orE_zero] at h
  rw [bif_zero (by decide)] at h
  simp at h
  exact ⟨h.1, h.2.1, by omega, by omega⟩
theorem indErr_ok {a d : Int} (h : indErr a d = 0) : ∃ n : Nat, d = (n + 1 : Nat) ∧ n < 12 ∧ 0 ≤ a ∧ a ≤ 2 ^ n := by
  unfold indErr at h
  simp only [orE_zero, withinS_zero] at h
  obtain ⟨⟨h1, h2⟩, h3, h4⟩ := h
  refine ⟨(d - 1).toNat, by omega, by omega, h3, h4⟩
def balR (b : Bl) (f : Fl) (ring a d : Int) : IV :=
  let e := orE (ringErr b f ring) (indErr a d)
  .tup [.int .i64 (bif e != 0 then 0 else b.bal f ring.toNat a d.toNat), .int .i64 e]
def findR (b : Bl) (f : Fl) (ring d : Int) : IV :=
  let e := orE (ringErr b f ring) (withinS d 1 12)
  bif e != 0 then .tup [.agg [.int .i64 0, .int .i64 0], .int .i64 e] else
    match b.br f ring.toNat (d - 1).toNat with
    | none => .tup [.agg [.int .i64 0, .int .i64 0], .int .i64 7]
    | some a => .tup [.agg [.int .i64 a, .int .i64 d], .int .i64 0]
end Go.Proofs.YtfoenhiohhmnlaaGreatDoor.Ix

namespace Go.Proofs.YtfoenhiohhmnlaaGreatDoor.Ix
open Go.Proofs
set_option maxRecDepth 100000
set_option linter.unusedVariables false
set_option linter.unusedSimpArgs false
noncomputable abbrev Γs (gl : Nat → IV) : Env := ⟨prog, T, gl, 0, Vis prog gl, none, none, []⟩
noncomputable abbrev Cs (gl : Nat → IV) : Con := ⟨Comp prog gl, CompO prog gl, VisO prog gl, CompL prog gl⟩
variable {gl : Nat → IV}
theorem mk {g : Nat} {fn : Func} {c : Code} {up up2 : List Ces} {args : List IV} {rv : IV} (hf : prog.funcs[g]? = some fn) (hb : fn.body = some c) (hn : (fn.name == "runtime.NumGoroutine") = false)
    (h : ibody (Cs gl) (Γs gl) fn up args (fun r up' => r = rv ∧ up' = up2)) : Comp prog gl g up args rv up2 :=
  comp_of_body (Γ := Γs gl) mixed0 tok0 ⟨fun _ _ _ _ _ h => h, fun _ _ _ _ h => h, fun _ _ _ _ _ h => h⟩ ⟨fun _ _ _ _ h => h, fun _ _ _ _ h => h⟩ hf hb hn h
noncomputable abbrev Γr (gl : Nat → IV) (rw : List Nat) : Env := ⟨prog, T, gl, 0, Vis prog gl, none, none, rw⟩
theorem mkR (rw : List Nat) {g : Nat} {fn : Func} {c : Code} {up up2 : List Ces} {args : List IV} {rv : IV} (hf : prog.funcs[g]? = some fn) (hb : fn.body = some c) (hn : (fn.name == "runtime.NumGoroutine") = false)
    (h : ibody (Cs gl) (Γr gl rw) fn up args (fun r up' => r = rv ∧ up' = up2)) : Comp prog gl g up args rv up2 :=
  comp_of_body (Γ := Γr gl rw) mixed0 tok0 ⟨fun _ _ _ _ _ h => h, fun _ _ _ _ h => h, fun _ _ _ _ _ h => h⟩ ⟨fun _ _ _ _ h => h, fun _ _ _ _ h => h⟩ hf hb hn h
theorem c_when (up : List Ces) (b : Bool) (e : Int) : Cs gl n_rotor_when up [.bool b, .int .i64 e] (.int .i64 (bif b then e else 0)) up := by
  refine mk h_rotor_when rfl rfl ?_
  cases b <;> (conv => whnf) <;> exact ⟨rfl, rfl⟩
theorem c_within (up : List Ces) (n lo hi : Int) : Cs gl n_rotor_within up [.int .i64 n, .int .i64 lo, .int .i64 hi] (.int .i64 (withinS n lo hi)) up := by
  refine mk h_rotor_within rfl rfl ?_
  conv => whnf
  split
  · rename_i h1
    conv => whnf
    refine .mk _ _ _ _ _ (leL_refl _) (c_when _ _ _) rfl ?_
    conv => whnf
    simp [withinS, h1]
  · rename_i h1
    conv => whnf
    refine .mk _ _ _ _ _ (leL_refl _) (c_when _ _ _) rfl ?_
    conv => whnf
    simp [withinS, h1]
theorem c_checkDepth (up : List Ces) (n : Int) : Cs gl n_rotor_checkDepth up [.int .i64 n] (.int .i64 (withinS n 1 12)) up := by
  refine mk h_rotor_checkDepth rfl rfl ?_
  conv => whnf
  refine .mk _ _ _ _ _ (leL_refl _) (c_within _ _ _ _) rfl ?_
  conv => whnf
  exact ⟨rfl, rfl⟩
theorem c_first (up : List Ces) (n : Nat) (hn : n ≤ 4611686018427387904) (f : Nat → Int) : Cs gl n_rotor_first up [.lst none 1 n fun i => [.int .i64 (f i)]] (.int .i64 (firstS f n 0)) up := by
  refine mk h_rotor_first rfl rfl ?_
  conv => whnf
  refine .mk (α := {i : Nat // i ≤ n ∧ firstS f n 0 = firstS f (n - i) i}) (fun i => ⟨[(7, .int .i64 i.1), (6, .int .i64 n), (5, .lst none 1 n fun i => [.int .i64 (f i)])], [], up⟩) (fun i => n - i.1) ⟨0, Nat.zero_le _, rfl⟩ ⟨?_, trivial, rfl, rfl⟩ ?_
  · exact ⟨leV_refl _, leV_refl _, leV_refl _, trivial⟩
  · rintro ⟨i, hi, hf⟩
    conv => whnf
    split
    · rename_i hb
      have hlt : i < n := by simpa using hb
      have hstep : firstS f (n - i) i = bif f i != 0 then f i else firstS f (n - (i + 1)) (i + 1) := by
        rw [show n - i = (n - (i + 1)) + 1 by omega]; rfl
      conv => whnf
      split
      · conv => whnf
        split
        · rename_i h2
          conv => whnf
          refine ⟨?_, rfl⟩
          have h2' : (f i != 0) = true := h2
          show IV.int .i64 (f i) = .int .i64 (firstS f n 0)
          rw [hf, hstep, h2']; rfl
        · rename_i h2
          have h2' : (f i != 0) = false := h2
          conv => whnf
          refine ⟨⟨i + 1, hlt, by rw [hf, hstep, h2']; rfl⟩, ⟨?_, trivial, rfl, rfl⟩, ?_⟩
          · have hw : IntKind.i64.wrap ((i : Int) + 1) = ((i + 1 : Nat) : Int) := by
              rw [wrap_in] <;> omega
            exact ⟨leV_int hw, leV_refl _, leV_refl _, trivial⟩
          · show n - (i + 1) < n - i
            omega
      · rename_i h2; rw [hb] at h2; cases h2
    · rename_i hb
      have : i = n := by simp at hb; omega
      conv => whnf
      refine ⟨?_, rfl⟩
      show IV.int .i64 0 = .int .i64 (firstS f n 0)
      rw [hf, this, Nat.sub_self]; rfl
theorem c_first3 (up : List Ces) (a b c : Int) : Cs gl n_rotor_first up [.lst none 1 3 fun i => [.int .i64 ([a, b, c].getD i 0)]] (.int .i64 (bif a != 0 then a else bif b != 0 then b else bif c != 0 then c else 0)) up := c_first up 3 (by decide) fun i => [a, b, c].getD i 0
theorem c_CheckFlow (up : List Ces) (w s p : Int) : Cs gl n_rotor_CheckFlow up [.agg [.int .i64 w, .int .i64 s, .int .i64 p]] (.int .i64 (bif withinS w 1 50 != 0 then withinS w 1 50 else bif withinS s 1 1000 != 0 then withinS s 1 1000 else bif withinS p (-64) 64 != 0 then withinS p (-64) 64 else 0)) up := by
  refine mk h_rotor_CheckFlow rfl rfl ?_
  conv => whnf
  refine .mk 11 (by kernel_rfl) ?_
  conv => whnf
  refine .mk _ _ _ (leL_refl _) (c_within _ _ _ _) rfl ?_
  conv => whnf
  refine .mk _ _ _ (leL_refl _) (c_within _ _ _ _) rfl ?_
  conv => whnf
  refine .mk _ _ _ (leL_refl _) (c_within _ _ _ _) rfl ?_
  conv => whnf
  refine .mk _ _ _ ?_ (c_first3 _ (withinS w 1 50) (withinS s 1 1000) (withinS p (-64) 64)) rfl ?_
  · exact ⟨⟨.inl rfl, rfl, rfl, fun i hi => by
      match i, hi with
      | 0, _ => rfl
      | 1, _ => rfl
      | 2, _ => rfl⟩, trivial⟩
  conv => whnf
  exact ⟨rfl, rfl⟩
theorem c_next (up : List Ces) (a d : Int) : Cs gl n_rotor_Induction_next up [.agg [.int .i64 a, .int .i64 d]] (.agg [.int .i64 (w64 (a + 1)), .int .i64 d]) up := by
  refine mk h_rotor_Induction_next rfl rfl ?_
  conv => whnf
  exact ⟨rfl, rfl⟩
theorem c_shift (up : List Ces) (nl nd : Nat) (lf df : Nat → Int) (r c t tip w s p : Int) : Cs gl n_rotor_section_shift up [secI nl nd lf df r c t tip w s p] (.int .i64 (w64 (t + p))) up := by
  refine mk h_rotor_section_shift rfl rfl ?_
  conv => whnf
  exact ⟨rfl, rfl⟩
theorem c_class (up : List Ces) (nl nd : Nat) (lf df : Nat → Int) (r c t tip w s p x : Int) : Cs gl n_rotor_section_class up [secI nl nd lf df r c t tip w s p, .int .i64 x]
    (.int .i64 (minW (maxW 0 (w64 (x - w64 (t + p)))) (w64 (nl - 1)))) up := by
  refine mk h_rotor_section_class rfl rfl ?_
  conv => whnf
  refine .mk 11 (by kernel_rfl) ?_
  conv => whnf
  refine .mk _ _ _ (leL_refl _) (c_shift _ _ _ _ _ _ _ _ _ _ _ _) rfl ?_
  conv => whnf
  exact ⟨rfl, rfl⟩
theorem c_inflow (up : List Ces) (nl nd : Nat) (lf df : Nat → Int) (r c t tip w s p a d : Int) (h1 : 0 ≤ d) (h2 : denW r s d ≠ 0) : Cs gl n_rotor_section_inflow up [secI nl nd lf df r c t tip w s p, .agg [.int .i64 a, .int .i64 d]]
    (.int .i64 (inflowW r w s a d)) up := by
  refine mk h_rotor_section_inflow rfl rfl ?_
  conv => whnf
  split
  · conv => whnf
    split
    · conv => whnf
      exact ⟨rfl, rfl⟩
    · rename_i h
      have h' : (denW r s d != 0) = false := h
      exact absurd (by simpa using h') h2
  · rename_i h; simp at h; omega
theorem c_balance (up : List Ces) (nl nd : Nat) (lf df : Nat → Int) (r c t tip w s p a d : Int) (h1 : 0 ≤ d) (h2 : denW r s d ≠ 0)
    (h3 : 0 ≤ classW nl t p (inflowW r w s a d)) (h4 : classW nl t p (inflowW r w s a d) < nl) :
    Cs gl n_rotor_section_balance up [secI nl nd lf df r c t tip w s p, .agg [.int .i64 a, .int .i64 d]] (.int .i64 (balanceW nl lf r c t tip w s p a d)) up := by
  refine mk h_rotor_section_balance rfl rfl ?_
  conv => whnf
  split
  · conv => whnf
    refine .mk 10 (by kernel_rfl) ?_
    conv => whnf
    refine .mk _ _ _ (leL_refl _) (c_inflow _ _ _ _ _ _ _ _ _ _ _ _ _ _ h1 h2) rfl ?_
    conv => whnf
    refine .mk _ _ _ (leL_refl _) (c_class _ _ _ _ _ _ _ _ _ _ _ _ _) rfl ?_
    conv => whnf
    split
    · conv => whnf
      split
      · conv => whnf
        exact ⟨rfl, rfl⟩
      · rename_i h
        have h' : decide (classW nl t p (inflowW r w s a d) < (nl : Int)) = false := h
        simp at h'; omega
    · rename_i h
      have h' : decide (0 ≤ classW nl t p (inflowW r w s a d)) = false := h
      simp at h'; omega
  · rename_i h; simp at h; omega
theorem c_find (up : List Ces) (nl nd : Nat) (lf df : Nat → Int) (r c t tip w s p d half : Int) (h1 : 0 ≤ w64 (d - 1)) (hh : halfW d = half) (hb : 0 ≤ half ∧ half ≤ 4096) (ok : ∀ a, 0 ≤ a → a ≤ half → BalOK nl r t w s p a d) (rv : IV)
    (hr : rv = match findS (fun a => balanceW nl lf r c t tip w s p a d) half with | none => .tup [.agg [.int .i64 0, .int .i64 0], .bool false] | some a => .tup [.agg [.int .i64 a, .int .i64 d], .bool true]) :
    Cs gl n_rotor_section_find up [secI nl nd lf df r c t tip w s p, .int .i64 d] rv up := by
  refine mk h_rotor_section_find rfl rfl ?_
  conv => whnf
  refine .mk 10 (by kernel_rfl) ?_
  conv => whnf
  split
  · conv => whnf
    have o := ok half hb.1 (Int.le_refl _)
    have o' : BalOK nl r t w s p (halfW d) d := hh ▸ o
    refine .mk _ _ _ _ _ (leL_refl _) (c_balance _ _ _ _ _ _ _ _ _ _ _ _ _ _ o'.d0 o'.den o'.lo o'.hi) rfl ?_
    conv => whnf
    split
    · rename_i q
      have q' : decide (balanceW nl lf r c t tip w s p (halfW d) d ≤ 0) = true := q
      conv => whnf
      refine ⟨?_, rfl⟩
      rw [hh] at q'
      simp only [hr, findS, q', cond_true]
    · rename_i q
      have q' : decide (balanceW nl lf r c t tip w s p (halfW d) d ≤ 0) = false := q
      conv => whnf
      let f : Int → Int := fun a => balanceW nl lf r c t tip w s p a d
      refine .mk (α := {x : Int × Int × Nat // 0 ≤ x.1 ∧ x.2.1 ≤ half ∧ x.1 ≤ x.2.1 ∧ x.2.1 - x.1 ≤ x.2.2 ∧ searchS f x.2.2 x.1 x.2.1 = searchS f half.toNat 0 half})
        (fun x => ⟨[(1, .int .i64 d), (2, .ptr 0 2 0), (4, .ptr 0 4 0), (6, .ptr 0 6 0), (7, .ptr 0 7 0)],
          [(7, [.int .i64 x.1.2.1, .int .i64 d]), (6, [.int .i64 x.1.1, .int .i64 d]), (4, [.int .i64 0, .int .i64 0]),
           (2, [.lst none 1 nl fun i => [.int .i64 (lf i)], .lst none 1 nd fun i => [.int .i64 (df i)], .int .i64 r, .int .i64 c, .int .i64 t, .int .i64 tip, .int .i64 w, .int .i64 s, .int .i64 p])], up⟩)
        (fun x => x.1.2.2) ⟨(0, half, half.toNat), Int.le_refl _, Int.le_refl _, hb.1, by simp; omega, rfl⟩ ⟨?_, ?_, rfl, rfl⟩ ?_
      · exact ⟨leV_refl _, leV_refl _, leV_refl _, leV_refl _, leV_refl _, trivial⟩
      · exact ⟨⟨leV_int hh, leV_refl _, trivial⟩, leL_refl _, leL_refl _, leL_refl _, trivial⟩
      · rintro ⟨⟨lo, hi, n⟩, g1, g2, g3, g4, g5⟩
        simp only at g1 g2 g3 g4 g5
        have hw : w64 (hi - lo) = hi - lo := by rw [w64, wrap_in] <;> omega
        have hw2 : w64 (w64 (lo + hi) |>.tdiv 2) = (lo + hi) / 2 := by
          have e1 : w64 (lo + hi) = lo + hi := by rw [w64, wrap_in] <;> omega
          rw [e1, Int.tdiv_eq_ediv_of_nonneg (by omega), w64, wrap_in] <;> omega
        conv => whnf
        have hm : BalOK nl r t w s p (w64 (w64 (lo + hi) |>.tdiv 2)) d := by rw [hw2]; exact ok _ (by omega) (by omega)
        split
        · rename_i z
          have z' : decide (w64 (hi - lo) > 1) = true := z
          rw [hw] at z'
          have z1 : hi - lo > 1 := by simpa using z'
          obtain ⟨m, rfl⟩ : ∃ m, n = m + 1 := ⟨n - 1, by omega⟩
          simp only [searchS, z', cond_true] at g5
          conv => whnf
          refine .mk _ _ _ _ _ (leL_refl _) (c_balance _ _ _ _ _ _ _ _ _ _ _ _ _ _ hm.d0 hm.den hm.lo hm.hi) rfl ?_
          conv => whnf
          split
          · rename_i y
            have y' : decide (f (w64 (w64 (lo + hi) |>.tdiv 2)) ≤ 0) = true := y
            rw [hw2] at y'
            rw [y', cond_true] at g5
            conv => whnf
            refine ⟨⟨((lo + hi) / 2, hi, m), by simp only; omega, g2, by simp only; omega, by simp only; omega, g5⟩, ⟨?_, ?_, rfl, rfl⟩, ?_⟩
            · exact ⟨leV_refl _, leV_refl _, leV_refl _, leV_refl _, leV_refl _, trivial⟩
            · exact ⟨leL_refl _, ⟨leV_int hw2, leV_refl _, trivial⟩, leL_refl _, leL_refl _, trivial⟩
            · exact Nat.lt_succ_self m
          · rename_i y
            have y' : decide (f (w64 (w64 (lo + hi) |>.tdiv 2)) ≤ 0) = false := y
            rw [hw2] at y'
            rw [y', cond_false] at g5
            conv => whnf
            refine ⟨⟨(lo, (lo + hi) / 2, m), g1, by simp only; omega, by simp only; omega, by simp only; omega, g5⟩, ⟨?_, ?_, rfl, rfl⟩, ?_⟩
            · exact ⟨leV_refl _, leV_refl _, leV_refl _, leV_refl _, leV_refl _, trivial⟩
            · exact ⟨⟨leV_int hw2, leV_refl _, trivial⟩, leL_refl _, leL_refl _, leL_refl _, trivial⟩
            · exact Nat.lt_succ_self m
        · rename_i z
          have z' : decide (w64 (hi - lo) > 1) = false := z
          rw [hw] at z'
          conv => whnf
          refine ⟨?_, rfl⟩
          have e : lo = searchS f half.toNat 0 half := by
            rw [← g5]
            cases n with
            | zero => rfl
            | succ n => simp only [searchS, z', cond_false]
          have q2 : decide (f half ≤ 0) = false := by rw [← hh]; exact q'
          rw [hr]
          simp only [findS]
          show IV.tup [.agg [.int .i64 lo, .int .i64 d], .bool true] = _
          rw [show decide ((fun a => balanceW nl lf r c t tip w s p a d) half ≤ 0) = false from q2, cond_false, e]
  · rename_i h
    have h' : decide (0 ≤ w64 (d - 1)) = false := h
    simp at h'; omega
theorem c_sections (up : List Ces) (nl nd nr : Nat) (lf df : Nat → Int) (r1 r2 r3 r4 : Nat → Int) (w s p : Int) :
    Cs gl n_rotor_sections up [.agg [.lst none 1 nl fun i => [.int .i64 (lf i)], .lst none 1 nd fun i => [.int .i64 (df i)], .lst none 4 nr fun i => [.int .i64 (r1 i), .int .i64 (r2 i), .int .i64 (r3 i), .int .i64 (r4 i)]], .agg [.int .i64 w, .int .i64 s, .int .i64 p]]
      (.fn n_rotor_sections_1 [] [.vptr 3 1 (fun _ => [.lst none 1 nl fun i => [.int .i64 (lf i)], .lst none 1 nd fun i => [.int .i64 (df i)], .lst none 4 nr fun i => [.int .i64 (r1 i), .int .i64 (r2 i), .int .i64 (r3 i), .int .i64 (r4 i)]]) 0 0, .vptr 3 1 (fun _ => [.int .i64 w, .int .i64 s, .int .i64 p]) 0 0]) up := by
  refine mk h_rotor_sections rfl rfl ?_
  conv => whnf
  exact ⟨rfl, rfl⟩
theorem c_torque1 (ce : Ces) (up : List Ces) (k nl nd : Nat) (lf df : Nat → Int) (r c t tip w s p x : Int) (h3 : 0 ≤ classW nl t p x) (h4 : classW nl t p x < nl) (h5 : classW nl t p x < nd) (hc : lookC ce k = some (secL nl nd lf df r c t tip w s p)) :
    Cs gl n_rotor_section_torque_1 (ce :: up) [.int .i64 x, .ptr 1 k 0] (.int .i64 (ofW nl lf df r c t tip p x)) (ce :: up) := by
  refine mk h_rotor_section_torque_1 rfl rfl ?_
  conv => whnf
  split
  rotate_left
  · rename_i h; exact absurd (hc.symm.trans h) nofun
  rename_i c0 h
  obtain rfl := Option.some.inj (hc.symm.trans h)
  clear h
  conv => whnf
  refine .mk _ _ _ _ _ (leL_refl _) (c_class _ _ _ _ _ _ _ _ _ _ _ _ _) rfl ?_
  conv => whnf
  refine .mk 28 (by kernel_rfl) ?_
  conv => whnf
  split
  rotate_left
  · rename_i h; exact absurd (hc.symm.trans h) nofun
  rename_i c0 h
  obtain rfl := Option.some.inj (hc.symm.trans h)
  clear h
  conv => whnf
  split
  rotate_left
  · rename_i h; exact absurd (hc.symm.trans h) nofun
  rename_i c0 h
  obtain rfl := Option.some.inj (hc.symm.trans h)
  clear h
  conv => whnf
  split
  rotate_left
  · rename_i h; exact absurd (hc.symm.trans h) nofun
  rename_i c0 h
  obtain rfl := Option.some.inj (hc.symm.trans h)
  clear h
  conv => whnf
  split
  rotate_left
  · rename_i h; exact absurd (hc.symm.trans h) nofun
  rename_i c0 h
  obtain rfl := Option.some.inj (hc.symm.trans h)
  clear h
  conv => whnf
  split
  rotate_left
  · rename_i h
    have h' : decide (0 ≤ classW nl t p x) = false := h
    simp at h'; omega
  conv => whnf
  split
  rotate_left
  · rename_i h
    have h' : decide (classW nl t p x < (nl : Int)) = false := h
    simp at h'; omega
  conv => whnf
  split
  rotate_left
  · rename_i h; exact absurd (hc.symm.trans h) nofun
  rename_i c0 h
  obtain rfl := Option.some.inj (hc.symm.trans h)
  clear h
  conv => whnf
  split
  rotate_left
  · rename_i h
    have h' : decide (0 ≤ classW nl t p x) = false := h
    simp at h'; omega
  conv => whnf
  split
  rotate_left
  · rename_i h
    have h' : decide (classW nl t p x < (nd : Int)) = false := h
    simp at h'; omega
  conv => whnf
  exact ⟨rfl, rfl⟩
theorem c_mapped (up : List Ces) (n : Nat) (hn : n ≤ 1000000) (f φ : Nat → Int) (k : Nat) (hk : ∀ up i, i < n → Cs gl k up [.int .i64 (f i)] (.int .i64 (φ i)) up) :
    Cs gl n_rotor_mapped_int_api_Errno up [.lst none 1 n fun i => [.int .i64 (f i)], .fn k [] []] (.lst (some 19) 1 n fun i => [.int .i64 (φ i)]) up := by
  refine mk h_rotor_mapped_int_api_Errno rfl rfl ?_
  conv => whnf
  refine .mk (α := {i : Nat // i ≤ n}) (fun i => ⟨[(10, .int .i64 i.1), (9, .int .i64 n), (8, .lst none 1 n fun i => [.int .i64 (f i)]), (5, .lst (some 19) 1 i.1 fun i => [.int .i64 (φ i)]), (1, .fn k [] [])], [], up⟩) (fun i => n - i.1) ⟨0, Nat.zero_le _⟩ ⟨?_, trivial, rfl, rfl⟩ ?_
  · exact ⟨leV_refl _, leV_refl _, leV_refl _, rfl, leV_refl _, trivial⟩
  · rintro ⟨i, hi⟩
    conv => whnf
    split
    · rename_i hb
      have hlt : i < n := by simpa using hb
      conv => whnf
      split
      · conv => whnf
        refine .mk _ _ _ _ _ (leL_refl _) (hk _ i hlt) rfl ?_
        conv => whnf
        split
        · conv => whnf
          refine ⟨⟨i + 1, hlt⟩, ⟨?_, trivial, rfl, rfl⟩, ?_⟩
          · have hw : IntKind.i64.wrap ((i : Int) + 1) = ((i + 1 : Nat) : Int) := by
              rw [wrap_in] <;> omega
            refine ⟨leV_int hw, leV_refl _, leV_refl _, ⟨.inr rfl, rfl, rfl, fun j hj => ?_⟩, leV_refl _, trivial⟩
            show (if j < i then [IV.int .i64 (φ j)] else litF 1 [.int .i64 (φ i)] (j - i)) = [IV.int .i64 (φ j)]
            split
            · rfl
            · have : j = i := by have : j < i + 1 := hj; omega
              subst this; rw [Nat.sub_self]; rfl
          · show n - (i + 1) < n - i
            omega
        · rename_i h2
          have h2' : decide (i + 1 ≤ 1073741824) = false := h2
          simp at h2'; omega
      · rename_i h2; rw [hb] at h2; cases h2
    · rename_i hb
      have : i = n := by simp at hb; omega
      subst this
      conv => whnf
      exact ⟨rfl, rfl⟩
theorem c_first4 (up : List Ces) (a b c d : Int) : Cs gl n_rotor_first up [.lst none 1 4 fun i => [.int .i64 ([a, b, c, d].getD i 0)]] (.int .i64 (firstS ([a, b, c, d].getD · 0) 4 0)) up := c_first up 4 (by decide) fun i => [a, b, c, d].getD i 0
theorem c_RingCheck (up : List Ces) (r c t tip : Int) : Cs gl n_rotor_Ring_check up [.agg [.int .i64 r, .int .i64 c, .int .i64 t, .int .i64 tip]]
    (.int .i64 (firstS ([withinS r 1 200, withinS c 1 100, withinS t (-64) 64, withinS tip 0 256].getD · 0) 4 0)) up := by
  refine mk h_rotor_Ring_check rfl rfl ?_
  conv => whnf
  refine .mk 14 (by kernel_rfl) ?_
  conv => whnf
  refine .mk _ _ _ (leL_refl _) (c_within _ _ _ _) rfl ?_
  conv => whnf
  refine .mk _ _ _ (leL_refl _) (c_within _ _ _ _) rfl ?_
  conv => whnf
  refine .mk _ _ _ (leL_refl _) (c_within _ _ _ _) rfl ?_
  conv => whnf
  refine .mk _ _ _ (leL_refl _) (c_within _ _ _ _) rfl ?_
  conv => whnf
  refine .mk _ _ _ ?_ (c_first4 _ (withinS r 1 200) (withinS c 1 100) (withinS t (-64) 64) (withinS tip 0 256)) rfl ?_
  · exact ⟨⟨.inl rfl, rfl, rfl, fun i hi => by
      match i, hi with
      | 0, _ => rfl
      | 1, _ => rfl
      | 2, _ => rfl
      | 3, _ => rfl⟩, trivial⟩
  conv => whnf
  exact ⟨rfl, rfl⟩
theorem c_component (up : List Ces) (a b c : Int) : Cs gl n_rotor_component up [.agg [.int .i64 a, .int .i64 b, .int .i64 c]] (.agg [.int .i64 (w64 (a - c)), .int .i64 (w64 (b - c))]) up := by
  refine mk h_rotor_component rfl rfl ?_
  conv => whnf
  exact ⟨rfl, rfl⟩
theorem c_checkLoads1 (up : List Ces) (x : Int) : Cs gl n_rotor_checkLoads_1 up [.int .i64 x] (.int .i64 (withinS x (-1000000) 1000000)) up := by
  refine mk h_rotor_checkLoads_1 rfl rfl ?_
  conv => whnf
  refine .mk _ _ _ _ _ (leL_refl _) (c_within _ _ _ _) rfl ?_
  conv => whnf
  exact ⟨rfl, rfl⟩
theorem c_CheckPolar1 (up : List Ces) (x : Int) : Cs gl n_rotor_CheckPolar_1 up [.int .i64 x] (.int .i64 (withinS x 0 1000)) up := by
  refine mk h_rotor_CheckPolar_1 rfl rfl ?_
  conv => whnf
  refine .mk _ _ _ _ _ (leL_refl _) (c_within _ _ _ _) rfl ?_
  conv => whnf
  exact ⟨rfl, rfl⟩
end Go.Proofs.YtfoenhiohhmnlaaGreatDoor.Ix

namespace Go.Proofs.YtfoenhiohhmnlaaGreatDoor.Ix
open Go.Proofs
set_option maxRecDepth 100000
set_option linter.unusedVariables false
set_option linter.unusedSimpArgs false
variable {gl : Nat → IV}
theorem c_f2 (up : List Ces) (f : Nat → List IV) (a b : Int) (h0 : f 0 = [.int .i64 a]) (h1 : f 1 = [.int .i64 b]) : Cs gl n_rotor_first up [.lst none 1 2 f] (.int .i64 (orE a b)) up := by
  have := c_first (gl := gl) up 2 (by decide) fun i => [a, b].getD i 0
  have e : firstS (fun i => [a, b].getD i 0) 2 0 = orE a b := by rw [← orE_right (orE a b), orE_assoc]; rfl
  rw [← e]
  refine Comp.le ?_ this
  refine ⟨⟨.inl rfl, rfl, rfl, fun i hi => ?_⟩, trivial⟩
  match i, hi with
  | 0, _ => exact h0
  | 1, _ => exact h1
theorem c_f3 (up : List Ces) (f : Nat → List IV) (a b c : Int) (h0 : f 0 = [.int .i64 a]) (h1 : f 1 = [.int .i64 b]) (h2 : f 2 = [.int .i64 c]) : Cs gl n_rotor_first up [.lst none 1 3 f] (.int .i64 (orE a (orE b c))) up := by
  have := c_first (gl := gl) up 3 (by decide) fun i => [a, b, c].getD i 0
  have e : firstS (fun i => [a, b, c].getD i 0) 3 0 = orE a (orE b c) := by rw [← orE_right (orE a (orE b c)), orE_assoc, orE_assoc]; rfl
  rw [← e]
  refine Comp.le ?_ this
  refine ⟨⟨.inl rfl, rfl, rfl, fun i hi => ?_⟩, trivial⟩
  match i, hi with
  | 0, _ => exact h0
  | 1, _ => exact h1
  | 2, _ => exact h2
theorem orE_pos {a b : Int} (h : (a != 0) = true) : orE a b = a := by unfold orE; rw [h]; rfl
theorem orE_neg {a b : Int} (h : (a != 0) = false) : orE a b = b := by unfold orE; rw [h]; rfl
def liftS (lf : Nat → Int) (i : Nat) : Int := orE (withinS (lf i) 0 1000) (bif decide (lf i < lf (i - 1)) then 11 else 0)
theorem polarS_eq (nl nd : Nat) (lf df : Nat → Int) : polarS nl lf nd df =
    orE (orE (bif (nl : Int) == 0 then 12 else 0) (orE (bif decide ((nl : Int) > 32) then 5 else 0) (bif (nd : Int) != nl then 2 else 0))) (orE (firstS (liftS lf) nl 0) (firstS (fun i => withinS (df i) 0 1000) nd 0)) := by
  unfold polarS liftS
  simp only [orE_assoc]
theorem c_CheckPolar (up : List Ces) (nl nd : Nat) (lf df : Nat → Int) : Cs gl n_rotor_CheckPolar up [.agg [.lst none 1 nl fun i => [.int .i64 (lf i)], .lst none 1 nd fun i => [.int .i64 (df i)]]] (.int .i64 (polarS nl lf nd df)) up := by
  refine mk h_rotor_CheckPolar rfl rfl ?_
  rw [polarS_eq]
  conv => whnf
  refine .mk 14 (by kernel_rfl) ?_
  conv => whnf
  first | refine CALLQ.mk _ _ _ (leL_refl _) (c_when _ _ _) rfl ?_ | refine CALL0.mk _ _ _ _ _ (leL_refl _) (c_when _ _ _) rfl ?_
  conv => whnf
  first | refine CALLQ.mk _ _ _ (leL_refl _) (c_when _ _ _) rfl ?_ | refine CALL0.mk _ _ _ _ _ (leL_refl _) (c_when _ _ _) rfl ?_
  conv => whnf
  first | refine CALLQ.mk _ _ _ (leL_refl _) (c_when _ _ _) rfl ?_ | refine CALL0.mk _ _ _ _ _ (leL_refl _) (c_when _ _ _) rfl ?_
  conv => whnf
  first | refine CALLQ.mk _ _ _ (leL_refl _) (c_f3 _ _ _ _ _ rfl rfl rfl) rfl ?_ | refine CALL0.mk _ _ _ _ _ (leL_refl _) (c_f3 _ _ _ _ _ rfl rfl rfl) rfl ?_
  conv => whnf
  split
  · rename_i h
    conv => whnf
    refine ⟨?_, rfl⟩
    rw [orE_pos h]
  · rename_i h
    rw [orE_neg h]
    have h0 : orE (bif (nl : Int) == 0 then 12 else 0) (orE (bif decide ((nl : Int) > 32) then 5 else 0) (bif (nd : Int) != nl then 2 else 0)) = 0 := by simpa using h
    simp only [orE_zero] at h0
    rw [bif_zero (by decide), bif_zero (by decide), bif_zero (by decide)] at h0
    simp at h0
    clear h
    obtain ⟨h1, h2, h3⟩ := h0
    have h3' : nd = nl := by omega
    subst h3'
    conv => whnf
    refine .mk (α := {i : Nat // i ≤ nd ∧ firstS (liftS lf) nd 0 = firstS (liftS lf) (nd - i) i}) (fun i => ⟨[(31, .int .i64 i.1), (30, .int .i64 nd), (29, .lst none 1 nd fun i => [.int .i64 (lf i)]), (1, .ptr 0 1 0)], [(1, [.lst none 1 nd fun i => [.int .i64 (lf i)], .lst none 1 nd fun i => [.int .i64 (df i)]])], up⟩) (fun i => nd - i.1) ⟨0, Nat.zero_le _, rfl⟩ ⟨?_, ?_, rfl, rfl⟩ ?_
    · exact ⟨leV_refl _, leV_refl _, leV_refl _, leV_refl _, trivial⟩
    · exact ⟨leL_refl _, trivial⟩
    · rintro ⟨i, hi, hf⟩
      conv => whnf
      split
      · rename_i hb
        have hlt : i < nd := by simpa using hb
        have hstep : firstS (liftS lf) (nd - i) i = orE (liftS lf i) (firstS (liftS lf) (nd - (i + 1)) (i + 1)) := by
          rw [show nd - i = (nd - (i + 1)) + 1 by omega]; rfl
        conv => whnf
        split
        · conv => whnf
          refine .mk 14 (by kernel_rfl) ?_
          conv => whnf
          first | refine CALLQ.mk _ _ _ (leL_refl _) (c_within _ _ _ _) rfl ?_ | refine CALL0.mk _ _ _ _ _ (leL_refl _) (c_within _ _ _ _) rfl ?_
          conv => whnf
          have hm : (if w64 ((i : Int) - 1) > 0 then w64 ((i : Int) - 1) else 0) = ((i - 1 : Nat) : Int) := by
            rw [w64, wrap_in (by omega) (by omega)]; split <;> omega
          rw [hm]
          split
          rotate_left
          · rename_i h
            have h' : decide (0 ≤ ((i - 1 : Nat) : Int)) = false := h
            simp at h' <;> omega
          conv => whnf
          split
          rotate_left
          · rename_i h
            have h' : decide (((i - 1 : Nat) : Int) < nd) = false := h
            simp at h' <;> omega
          conv => whnf
          first | refine CALLQ.mk _ _ _ (leL_refl _) (c_when _ _ _) rfl ?_ | refine CALL0.mk _ _ _ _ _ (leL_refl _) (c_when _ _ _) rfl ?_
          conv => whnf
          first | refine CALLQ.mk _ _ _ (leL_refl _) (c_f2 _ _ _ _ rfl rfl) rfl ?_ | refine CALL0.mk _ _ _ _ _ (leL_refl _) (c_f2 _ _ _ _ rfl rfl) rfl ?_
          conv => whnf
          split
          · rename_i h
            have h' : (liftS lf i != 0) = true := h
            conv => whnf
            refine ⟨?_, rfl⟩
            show IV.int .i64 (liftS lf i) = _
            rw [hf, hstep, orE_pos h', orE_pos h']
          · rename_i h
            have h' : (liftS lf i != 0) = false := h
            conv => whnf
            refine ⟨⟨i + 1, hlt, by rw [hf, hstep, orE_neg h']⟩, ⟨⟨leV_int ?_, leV_refl _, leV_refl _, leV_refl _, trivial⟩, ⟨leL_refl _, trivial⟩, rfl, rfl⟩, ?_⟩
            · show w64 ((i : Int) + 1) = ((i + 1 : Nat) : Int)
              rw [w64, wrap_in] <;> omega
            · show nd - (i + 1) < nd - i
              omega
        · rename_i h2; rw [hb] at h2; cases h2
      · rename_i hb
        have : i = nd := by simp at hb; omega
        subst this
        rw [Nat.sub_self] at hf
        have hf : firstS (liftS lf) i 0 = 0 := hf
        conv => whnf
        refine .mk _ _ _ _ _ (leL_refl _) (c_mapped _ _ (by omega) df (fun j => withinS (df j) 0 1000) _ (fun up j _ => c_CheckPolar1 up (df j))) rfl ?_
        conv => whnf
        refine .mk _ _ _ _ _ (leL_refl _) (c_first _ _ (by omega) fun j => withinS (df j) 0 1000) rfl ?_
        conv => whnf
        refine ⟨?_, rfl⟩
        rw [hf]; rfl
theorem c_RingCheck' (up : List Ces) (r c t tip : Int) : Cs gl n_rotor_Ring_check up [.agg [.int .i64 r, .int .i64 c, .int .i64 t, .int .i64 tip]] (.int .i64 (ringS r c t tip)) up := by
  have := c_RingCheck (gl := gl) up r c t tip
  have e : firstS ([withinS r 1 200, withinS c 1 100, withinS t (-64) 64, withinS tip 0 256].getD · 0) 4 0 = ringS r c t tip := by rw [← orE_right (ringS r c t tip), ringS, orE_assoc, orE_assoc, orE_assoc]; rfl
  rw [← e]; exact this
theorem c_CheckFlow' (up : List Ces) (w s p : Int) : Cs gl n_rotor_CheckFlow up [flowI w s p] (.int .i64 (flowS w s p)) up := by
  have := c_CheckFlow (gl := gl) up w s p
  have e : (bif withinS w 1 50 != 0 then withinS w 1 50 else bif withinS s 1 1000 != 0 then withinS s 1 1000 else bif withinS p (-64) 64 != 0 then withinS p (-64) 64 else 0) = flowS w s p := by
    show orE _ (orE _ (orE _ 0)) = _
    rw [orE_right]; rfl
  rw [← e]; exact this
theorem bladeS_eq (nl nd nr : Nat) (lf df r1 r2 r3 r4 : Nat → Int) : bladeS nl lf nd df nr r1 r2 r3 r4 =
    orE (orE (polarS nl lf nd df) (orE (bif (nr : Int) == 0 then 12 else 0) (bif decide ((nr : Int) > 16) then 5 else 0))) (firstS (ringAt r1 r2 r3 r4) nr 0) := by
  unfold bladeS
  simp only [orE_assoc]
theorem c_CheckBlade (up : List Ces) (nl nd nr : Nat) (lf df r1 r2 r3 r4 : Nat → Int) : Cs gl n_rotor_CheckBlade up [bladeI nl nd nr lf df r1 r2 r3 r4] (.int .i64 (bladeS nl lf nd df nr r1 r2 r3 r4)) up := by
  refine mk h_rotor_CheckBlade rfl rfl ?_
  rw [bladeS_eq]
  conv => whnf
  refine .mk 15 (by kernel_rfl) ?_
  conv => whnf
  first | refine CALLQ.mk _ _ _ (leL_refl _) (c_CheckPolar _ _ _ _ _) rfl ?_ | refine CALL0.mk _ _ _ _ _ (leL_refl _) (c_CheckPolar _ _ _ _ _) rfl ?_
  conv => whnf
  first | refine CALLQ.mk _ _ _ (leL_refl _) (c_when _ _ _) rfl ?_ | refine CALL0.mk _ _ _ _ _ (leL_refl _) (c_when _ _ _) rfl ?_
  conv => whnf
  first | refine CALLQ.mk _ _ _ (leL_refl _) (c_when _ _ _) rfl ?_ | refine CALL0.mk _ _ _ _ _ (leL_refl _) (c_when _ _ _) rfl ?_
  conv => whnf
  first | refine CALLQ.mk _ _ _ (leL_refl _) (c_f3 _ _ _ _ _ rfl rfl rfl) rfl ?_ | refine CALL0.mk _ _ _ _ _ (leL_refl _) (c_f3 _ _ _ _ _ rfl rfl rfl) rfl ?_
  conv => whnf
  split
  · rename_i h
    conv => whnf
    refine ⟨?_, rfl⟩
    rw [orE_pos h]
  · rename_i h
    rw [orE_neg h]
    have h0 : orE (polarS nl lf nd df) (orE (bif (nr : Int) == 0 then 12 else 0) (bif decide ((nr : Int) > 16) then 5 else 0)) = 0 := by simpa using h
    simp only [orE_zero] at h0
    rw [bif_zero (by decide), bif_zero (by decide)] at h0
    simp at h0
    clear h
    obtain ⟨_, h2, h3⟩ := h0
    conv => whnf
    refine .mk (α := {i : Nat // i ≤ nr ∧ firstS (ringAt r1 r2 r3 r4) nr 0 = firstS (ringAt r1 r2 r3 r4) (nr - i) i}) (fun i => ⟨[(29, .int .i64 i.1), (28, .int .i64 nr), (27, .lst none 4 nr fun i => [.int .i64 (r1 i), .int .i64 (r2 i), .int .i64 (r3 i), .int .i64 (r4 i)]), (1, .ptr 0 1 0)], [(1, [.lst none 1 nl fun i => [.int .i64 (lf i)], .lst none 1 nd fun i => [.int .i64 (df i)], .lst none 4 nr fun i => [.int .i64 (r1 i), .int .i64 (r2 i), .int .i64 (r3 i), .int .i64 (r4 i)]])], up⟩) (fun i => nr - i.1) ⟨0, Nat.zero_le _, rfl⟩ ⟨?_, ?_, rfl, rfl⟩ ?_
    · exact ⟨leV_refl _, leV_refl _, leV_refl _, leV_refl _, trivial⟩
    · exact ⟨leL_refl _, trivial⟩
    · rintro ⟨i, hi, hf⟩
      conv => whnf
      split
      · rename_i hb
        have hlt : i < nr := by simpa using hb
        have hstep : firstS (ringAt r1 r2 r3 r4) (nr - i) i = orE (ringAt r1 r2 r3 r4 i) (firstS (ringAt r1 r2 r3 r4) (nr - (i + 1)) (i + 1)) := by
          rw [show nr - i = (nr - (i + 1)) + 1 by omega]; rfl
        conv => whnf
        split
        · conv => whnf
          refine .mk 15 (by kernel_rfl) ?_
          conv => whnf
          have hm : (if w64 ((i : Int) - 1) > 0 then w64 ((i : Int) - 1) else 0) = ((i - 1 : Nat) : Int) := by
            rw [w64, wrap_in (by omega) (by omega)]; split <;> omega
          split
          · rename_i h0
            conv => whnf
            rw [hm]
            split
            rotate_left
            · rename_i h
              have h' : decide (0 ≤ ((i - 1 : Nat) : Int)) = false := h
              simp at h' <;> omega
            conv => whnf
            split
            rotate_left
            · rename_i h
              have h' : decide (((i - 1 : Nat) : Int) < nr) = false := h
              simp at h' <;> omega
            conv => whnf
            have hq : orE (ringS (r1 i) (r2 i) (r3 i) (r4 i)) (bif decide (r1 i ≤ r1 (i - 1)) then 11 else 0) = ringAt r1 r2 r3 r4 i := by
              unfold ringAt
              rw [show decide (0 < i) = true from decide_eq_true (by simpa using h0), Bool.true_and]
            refine .mk _ _ _ _ _ (leL_refl _) (c_RingCheck' _ _ _ _ _) rfl ?_
            conv => whnf
            refine .mk _ _ _ _ _ (leL_refl _) (c_when _ _ _) rfl ?_
            conv => whnf
            refine .mk _ _ _ _ _ (leL_refl _) (c_f2 _ _ _ _ rfl rfl) rfl ?_
            conv => whnf
            split
            · rename_i h
              have h' : (orE (ringS (r1 i) (r2 i) (r3 i) (r4 i)) (bif decide (r1 i ≤ r1 (i - 1)) then 11 else 0) != 0) = true := h
              rw [hq] at h'
              conv => whnf
              refine ⟨?_, rfl⟩
              show IV.int .i64 (orE (ringS (r1 i) (r2 i) (r3 i) (r4 i)) (bif decide (r1 i ≤ r1 (i - 1)) then 11 else 0)) = _
              rw [hf, hstep, hq, orE_pos h']
            · rename_i h
              have h' : (orE (ringS (r1 i) (r2 i) (r3 i) (r4 i)) (bif decide (r1 i ≤ r1 (i - 1)) then 11 else 0) != 0) = false := h
              rw [hq] at h'
              conv => whnf
              refine ⟨⟨i + 1, hlt, by rw [hf, hstep, orE_neg h']⟩, ⟨⟨leV_int ?_, leV_refl _, leV_refl _, leV_refl _, trivial⟩, ⟨leL_refl _, trivial⟩, rfl, rfl⟩, ?_⟩
              · show w64 ((i : Int) + 1) = ((i + 1 : Nat) : Int)
                rw [w64, wrap_in] <;> omega
              · show nr - (i + 1) < nr - i
                omega
          · rename_i h0
            conv => whnf
            have hq : orE (ringS (r1 i) (r2 i) (r3 i) (r4 i)) (bif false then 11 else 0) = ringAt r1 r2 r3 r4 i := by
              unfold ringAt
              rw [show decide (0 < i) = false from decide_eq_false (by simpa using h0), Bool.false_and]
            refine .mk _ _ _ _ _ (leL_refl _) (c_RingCheck' _ _ _ _ _) rfl ?_
            conv => whnf
            refine .mk _ _ _ _ _ (leL_refl _) (c_when _ _ _) rfl ?_
            conv => whnf
            refine .mk _ _ _ _ _ (leL_refl _) (c_f2 _ _ _ _ rfl rfl) rfl ?_
            conv => whnf
            split
            · rename_i h
              have h' : (orE (ringS (r1 i) (r2 i) (r3 i) (r4 i)) (bif false then 11 else 0) != 0) = true := h
              rw [hq] at h'
              conv => whnf
              refine ⟨?_, rfl⟩
              show IV.int .i64 (orE (ringS (r1 i) (r2 i) (r3 i) (r4 i)) (bif false then 11 else 0)) = _
              rw [hf, hstep, hq, orE_pos h']
            · rename_i h
              have h' : (orE (ringS (r1 i) (r2 i) (r3 i) (r4 i)) (bif false then 11 else 0) != 0) = false := h
              rw [hq] at h'
              conv => whnf
              refine ⟨⟨i + 1, hlt, by rw [hf, hstep, orE_neg h']⟩, ⟨⟨leV_int ?_, leV_refl _, leV_refl _, leV_refl _, trivial⟩, ⟨leL_refl _, trivial⟩, rfl, rfl⟩, ?_⟩
              · show w64 ((i : Int) + 1) = ((i + 1 : Nat) : Int)
                rw [w64, wrap_in] <;> omega
              · show nr - (i + 1) < nr - i
                omega
        · rename_i h2; rw [hb] at h2; cases h2
      · rename_i hb
        have : i = nr := by simp at hb; omega
        subst this
        rw [Nat.sub_self] at hf
        have hf : firstS (ringAt r1 r2 r3 r4) i 0 = 0 := hf
        conv => whnf
        refine ⟨?_, rfl⟩
        rw [hf]
end Go.Proofs.YtfoenhiohhmnlaaGreatDoor.Ix

namespace Go.Proofs.YtfoenhiohhmnlaaGreatDoor.Ix
set_option linter.unusedVariables false
abbrev bytesS (l : List UInt8) : ByteArray := ⟨l.toArray⟩
theorem bytesS_size (l : List UInt8) : (bytesS l).size = l.length := by simp [ByteArray.size]
theorem bytesS_data (l : List UInt8) : (bytesS l).data.toList = l := by simp
theorem bytesS_append (a b : List UInt8) : bytesS a ++ bytesS b = bytesS (a ++ b) := by
  apply ByteArray.ext
  simp [ByteArray.data_append]
theorem bytesS_mk (s : ByteArray) : bytesS s.data.toList = s := by cases s; simp [bytesS]
def numsS (f : Nat → Int) : Nat → List UInt8
  | 0 => []
  | n + 1 => numsS f n ++ 32 :: Go.Lib.itoa (f n)
def lineS (w : List UInt8) (n : Nat) (f : Nat → Int) : List UInt8 := w ++ numsS f n ++ [10]
theorem numsS_eq (f : Nat → Int) : ∀ n, Go.Lib.joinTail [32] ((List.range n).map fun i => Go.Lib.itoa (f i)) = numsS f n
  | 0 => rfl
  | n + 1 => by
    have ih := numsS_eq f n
    unfold Go.Lib.joinTail at *
    rw [List.range_succ]
    simp only [List.map_append, List.flatten_append, numsS, List.map_cons, List.map_nil]
    rw [ih]
    simp
def i64 (x : Int) : Prop := -9223372036854775808 ≤ x ∧ x ≤ 9223372036854775807
theorem numsS_len {f : Nat → Int} : ∀ n, (∀ i, i < n → i64 (f i)) → (numsS f n).length ≤ n * 22
  | 0, _ => by simp [numsS]
  | n + 1, h => by
    have ih := numsS_len n fun i hi => h i (by omega)
    have := Go.Lib.itoa_length_le (f n) (h n (by omega)).1 (h n (by omega)).2
    simp only [numsS, List.length_append, List.length_cons]
    omega
def Bl.ring (b : Bl) (i j : Nat) : Int := [b.r1 i, b.r2 i, b.r3 i, b.r4 i].getD j 0
def Bl.pol (b : Bl) (j : Nat) : Int := if j % 2 = 0 then b.lf (j / 2) else b.df (j / 2)
abbrev polarW : List UInt8 := [112, 111, 108, 97, 114]
abbrev ringW : List UInt8 := [114, 105, 110, 103]
def ringsS (b : Bl) : Nat → List UInt8
  | 0 => []
  | k + 1 => ringsS b k ++ lineS ringW 4 (b.ring k)
def Bl.text (b : Bl) : List UInt8 := lineS polarW (2 * b.nl) b.pol ++ ringsS b b.nr
theorem ringsS_len {b : Bl} : ∀ k, (∀ i, i < k → ∀ j, i64 (b.ring i j)) → (ringsS b k).length ≤ k * 93
  | 0, _ => by simp [ringsS]
  | k + 1, h => by
    have ih := ringsS_len k fun i hi => h i (by omega)
    have := numsS_len (f := b.ring k) 4 fun i hi => h k (by omega) i
    simp only [ringsS, List.length_append, lineS, List.length_cons, List.length_nil]
    omega
theorem ring_i64 {b : Bl} {f : Fl} {i : Nat} (h : b.ok f i) (j : Nat) : i64 (b.ring i j) := by
  have h1 := h.r
  have h2 := h.c
  have h3 := h.t
  have h4 := h.tip
  unfold Bl.ring i64
  match j with
  | 0 => simp; omega
  | 1 => simp; omega
  | 2 => simp; omega
  | 3 => simp; omega
  | j + 4 => simp
end Go.Proofs.YtfoenhiohhmnlaaGreatDoor.Ix

namespace Go.Proofs.YtfoenhiohhmnlaaGreatDoor.Ix
set_option linter.unusedVariables false
inductive Shp where
  | int (k : IntKind)
  | bool
  | str
  | slice (e : Nat) (s : Shp)
  | agg (l : List (Nat × Shp))
def total : List (Nat × Shp) → Nat
  | [] => 0
  | x :: r => x.1 + total r
mutual
def ShpOK (P : Program) : Shp → TypeId → Prop
  | .int k, t => P.underlying t = some (.int k)
  | .bool, t => P.underlying t = some .bool
  | .str, t => P.underlying t = some .string
  | .slice e s, t => ∃ u, P.underlying t = some (.slice u) ∧ P.cellsOf u = e ∧ 0 < e ∧ ShpOK P s u
  | .agg l, t => P.cellsOf t = total l ∧ ((∃ fs, P.underlying t = some (.struct fs) ∧ ShpOKs P l 0 (fs.toList.map fun f => (f.offset, f.type))) ∨
      ∃ n e, P.underlying t = some (.array n e) ∧ ShpOKs P l 0 ((List.range n).map fun i => (i * P.cellsOf e, e)))
def ShpOKs (P : Program) : List (Nat × Shp) → Nat → List (Nat × TypeId) → Prop
  | [], _, [] => True
  | (sz, s) :: l, off, (o, u) :: r => o = off ∧ P.cellsOf u = sz ∧ ShpOK P s u ∧ ShpOKs P l (off + sz) r
  | _, _, _ => False
end
mutual
def Fit : Shp → List IV → Prop
  | .int k, xs => ∃ n, xs = [.int k n] ∧ (Lit.int k n).wf = true
  | .bool, xs => ∃ b, xs = [.bool b]
  | .str, xs => ∃ s : ByteArray, xs = [.str s] ∧ s.size ≤ maxLen
  | .slice e s, xs => ∃ n f, xs = [.lst none e n f] ∧ n ≤ maxLen ∧ ∀ i, i < n → (f i).length = e ∧ Fit s (f i)
  | .agg l, xs => FitL l xs
def FitL : List (Nat × Shp) → List IV → Prop
  | [], xs => xs = []
  | (sz, s) :: l, xs => ∃ ys zs, xs = ys ++ zs ∧ ys.length = sz ∧ Fit s ys ∧ FitL l zs
end
def Tells (I : Imm) (xs : List IV) (cs : List Value) : Prop := xs.length = cs.length ∧ ∀ (j : Nat) y, xs[j]? = some y → D I y (cs.getD j undef) ∧ (cs.getD j undef).oneCell' = true
theorem Tells.one {I : Imm} {x : IV} {v : Value} (h : D I x v) (h1 : v.oneCell' = true) : Tells I [x] [v] := by
  refine ⟨rfl, fun j y hy => ?_⟩
  cases j with
  | zero => simp at hy; subst hy; exact ⟨h, h1⟩
  | succ j => simp at hy
theorem Tells.append {I : Imm} {xs ys : List IV} {cs ds : List Value} (h : Tells I xs cs) (k : Tells I ys ds) : Tells I (xs ++ ys) (cs ++ ds) := by
  refine ⟨by simp [h.1, k.1], fun j y hy => ?_⟩
  by_cases hj : j < xs.length
  · rw [List.getElem?_append_left hj] at hy
    have := h.2 j y hy
    rw [List.getD_eq_getElem?_getD, List.getElem?_append_left (by rw [← h.1]; exact hj), ← List.getD_eq_getElem?_getD]; exact this
  · rw [List.getElem?_append_right (by omega)] at hy
    have := k.2 _ y hy
    rw [List.getD_eq_getElem?_getD, List.getElem?_append_right (by rw [← h.1]; omega), ← h.1, ← List.getD_eq_getElem?_getD]; exact this
section
variable {H : Type} {enc : TypeId × Value → H} {P : Program} {w : World} {spare : Nat → Bool} {held : Bool}
theorem cells_get {base : Nat} {a : Addr} {n : Nat} {cs : List Value} (h : w.cells? base a n = some cs) : cs.length = n ∧ ∀ j, j < n → w.cell? (a.add j) = cs[j]? := by
  unfold World.cells? at h
  split at h
  · exact ⟨by simpa using mapM_some_length h, fun j hj => mapM_some_get h j j (by simp [hj])⟩
  · cases h
theorem cell_spot {a : Addr} {v : Value} (h : w.cell? a = some v) : a.spot = none := by
  unfold World.cell? at h
  split at h
  · cases hs : a.spot with
    | none => rfl
    | some x => simp [hs] at h
  · cases h
mutual
theorem fit_of_trod : ∀ (s : Shp) (t : TypeId), ShpOK P s t → ∀ (fuel : Nat) (cs : List Value) (x : DataW H × List MemPlace), DataW.trod enc P w 0 (fun _ => true) held fuel t cs = some x →
    ∃ xs, Fit s xs ∧ Tells (fun a => w.cell? a) xs cs
  | .int k, t, ht, fuel, cs, x, h => by
    simp only [ShpOK] at ht
    obtain ⟨n, rfl, _, hw⟩ := DataW.trod_int ht h
    exact ⟨_, ⟨n, rfl, hw⟩, .one (.int k n) rfl⟩
  | .bool, t, ht, fuel, cs, x, h => by
    simp only [ShpOK] at ht
    obtain ⟨b, rfl, _⟩ := DataW.trod_bool ht h
    exact ⟨_, ⟨b, rfl⟩, .one (.bool b) rfl⟩
  | .str, t, ht, fuel, cs, x, h => by
    simp only [ShpOK] at ht
    obtain ⟨s, rfl, _, hs⟩ := DataW.trod_string ht h
    exact ⟨_, ⟨s, rfl, hs⟩, .one (.str s) rfl⟩
  | .slice e s, t, ht, fuel, cs, x, h => by
    simp only [ShpOK] at ht
    obtain ⟨u, hu, rfl, he, hs⟩ := ht
    rcases DataW.trod_slice hu h with ⟨rfl, _⟩ | ⟨a, len, cap, elems, rest, n, _, rfl, _, _, hlc, hcm, hlen, hel, hsp, _⟩
    · exact ⟨[.lst none (P.cellsOf u) 0 fun _ => []], ⟨0, _, rfl, Nat.zero_le _, fun i hi => by omega⟩, .one (.lstN _ _) rfl⟩
    · obtain ⟨hr1, hr2⟩ := hsp rfl
      have ex : ∀ i, i < len → ∃ xs, Fit s xs ∧ ∃ vs, w.cells? 0 (a.add (i * P.cellsOf u)) (P.cellsOf u) = some vs ∧ Tells (fun a => w.cell? a) xs vs := by
        intro i hi
        have h1 := hel i hi
        rw [List.getElem?_eq_getElem (by omega), Option.bind_eq_some_iff] at h1
        obtain ⟨vs, hv, ht⟩ := h1
        obtain ⟨xs, k1, k2⟩ := fit_of_trod s u hs n vs _ ht
        exact ⟨xs, k1, vs, hv, k2⟩
      have hspot : 0 < cap → a.spot = none := by
        intro hc
        have : ∃ vs, w.cells? 0 (a.add (0 * P.cellsOf u)) (P.cellsOf u) = some vs := by
          by_cases hl : 0 < len
          · obtain ⟨_, _, vs, hv, _⟩ := ex 0 hl; exact ⟨vs, hv⟩
          · have h1 := hr2 0 (by omega)
            rw [List.getElem?_eq_getElem (by omega), Option.bind_eq_some_iff] at h1
            obtain ⟨vs, hv, _⟩ := h1
            exact ⟨vs, by rw [show len + 0 = 0 by omega] at hv; exact hv⟩
        obtain ⟨vs, hv⟩ := this
        obtain ⟨g1, g2⟩ := cells_get hv
        have := g2 0 he
        rw [List.getElem?_eq_getElem (by omega), Nat.zero_mul] at this
        have h0 : (a.add 0).add 0 = a := by simp [Addr.add]
        rw [h0] at this
        exact cell_spot this
      by_cases hc : cap = 0
      · subst hc
        have : len = 0 := by omega
        subst this
        exact ⟨[.lst none (P.cellsOf u) 0 fun _ => []], ⟨0, _, rfl, Nat.zero_le _, fun i hi => by omega⟩, .one (.lstN _ _) rfl⟩
      · obtain ⟨b, off, spot⟩ := a
        have hs0 := hspot (by omega)
        simp only at hs0
        subst hs0
        let f : Nat → List IV := fun i => if hi : i < len then (ex i hi).choose else []
        have hf : ∀ i (hi : i < len), Fit s (f i) ∧ ∃ vs, w.cells? 0 ((⟨b, off, none⟩ : Addr).add (i * P.cellsOf u)) (P.cellsOf u) = some vs ∧ Tells (fun a => w.cell? a) (f i) vs := by
          intro i hi
          have e : f i = (ex i hi).choose := dif_pos hi
          rw [e]; exact (ex i hi).choose_spec
        have hlen' : ∀ i, i < len → (f i).length = P.cellsOf u := fun i hi => by
          obtain ⟨_, vs, hv, ht⟩ := hf i hi
          rw [ht.1]; exact (cells_get hv).1
        have hcell : ∀ i j, i < len → j < P.cellsOf u → ∃ v, w.cell? ⟨b, off + i * P.cellsOf u + j, none⟩ = some v ∧ v.oneCell' = true ∧ ∀ x, (f i)[j]? = some x → D (fun a => w.cell? a) x v := by
          intro i j hi hj
          obtain ⟨_, vs, hv, ht⟩ := hf i hi
          obtain ⟨g1, g2⟩ := cells_get hv
          have h1 := g2 j hj
          rw [add_none, add_none] at h1
          have hjl : j < (f i).length := by rw [hlen' i hi]; exact hj
          have h3 := ht.2 j _ (List.getElem?_eq_getElem hjl)
          refine ⟨vs.getD j undef, ?_, h3.2, fun x hx => (ht.2 j x hx).1⟩
          rw [h1, List.getD_eq_getElem?_getD, List.getElem?_eq_getElem (by omega)]; rfl
        refine ⟨[.lst none (P.cellsOf u) len f], ⟨len, f, rfl, by omega, fun i hi => ⟨hlen' i hi, (hf i hi).1⟩⟩, .one ?_ rfl⟩
        refine .lst _ len f b off cap (fun i j => (w.cell? ⟨b, off + i * P.cellsOf u + j, none⟩).getD undef) hlc hlen' (fun i j hi hj => ?_) (fun i j hi hj => ?_) (fun i j x hi hx => ?_)
        · obtain ⟨v, hv, _⟩ := hcell i j hi hj
          show w.cell? _ = some ((w.cell? _).getD undef)
          rw [hv]; rfl
        · obtain ⟨v, hv, h1, _⟩ := hcell i j hi hj
          show ((w.cell? _).getD undef).oneCell' = true
          rw [hv]; exact h1
        · have hj : j < P.cellsOf u := by rw [← hlen' i hi]; exact (List.getElem?_eq_some_iff.1 hx).1
          obtain ⟨v, hv, _, hD⟩ := hcell i j hi hj
          show D _ x ((w.cell? _).getD undef)
          rw [hv]; exact hD x hx
  | .agg l, t, ht, fuel, cs, x, h => by
    simp only [ShpOK] at ht
    obtain ⟨hsz, ⟨fs, hu, hfs⟩ | ⟨n, e, hu, hfs⟩⟩ := ht
    · obtain ⟨ys, n, _, _, hcl, hyl, hy⟩ := DataW.trod_struct hu h
      have := fits_of_trod l 0 _ hfs n cs (fun i o u hi => by
        simp only [List.getElem?_map, Option.map_eq_some_iff] at hi
        obtain ⟨f, hf, e⟩ := hi
        simp only [Prod.mk.injEq] at e
        obtain ⟨rfl, rfl⟩ := e
        have hf' : fs[i]? = some f := by simpa using hf
        have hlt : i < ys.length := by rw [hyl]; exact (Array.getElem?_eq_some_iff.1 hf').1
        exact ⟨_, (hy i f hf').trans (List.getElem?_eq_getElem hlt)⟩) (by omega)
      simpa [Fit] using this
    · obtain ⟨ys, m, _, _, hcl, hyl, hy⟩ := DataW.trod_array hu h
      have := fits_of_trod l 0 _ hfs m cs (fun i o u hi => by
        simp only [List.getElem?_map, Option.map_eq_some_iff] at hi
        obtain ⟨f, hf, e⟩ := hi
        simp only [Prod.mk.injEq] at e
        obtain ⟨rfl, rfl⟩ := e
        obtain ⟨hlt, rfl⟩ := List.getElem?_eq_some_iff.1 hf
        simp at hlt ⊢
        have := hy i hlt
        rw [List.getElem?_eq_getElem (by omega)] at this
        exact ⟨_, _, this⟩) (by omega)
      simpa [Fit] using this
theorem fits_of_trod : ∀ (l : List (Nat × Shp)) (off : Nat) (ts : List (Nat × TypeId)), ShpOKs P l off ts → ∀ (fuel : Nat) (cs : List Value),
    (∀ (i : Nat) o u, ts[i]? = some (o, u) → ∃ x, DataW.trod enc P w 0 (fun _ => true) held fuel u ((cs.drop o).take (P.cellsOf u)) = some x) → cs.length = off + total l →
    ∃ xs, FitL l xs ∧ Tells (fun a => w.cell? a) xs (cs.drop off)
  | [], off, ts, h, fuel, cs, hx, hl => ⟨[], rfl, by
      have : cs.drop off = [] := by simp [total] at hl; simp [hl]
      rw [this]; exact ⟨rfl, fun j y hy => by simp at hy⟩⟩
  | (sz, s) :: l, off, [], h, fuel, cs, hx, hl => by simp [ShpOKs] at h
  | (sz, s) :: l, off, (o, u) :: r, h, fuel, cs, hx, hl => by
    simp only [ShpOKs] at h
    obtain ⟨rfl, rfl, h3, h4⟩ := h
    simp only [total] at hl
    obtain ⟨y, hy⟩ := hx 0 o u rfl
    obtain ⟨xs, k1, k2⟩ := fit_of_trod s u h3 fuel _ y hy
    obtain ⟨zs, m1, m2⟩ := fits_of_trod l (o + P.cellsOf u) r h4 fuel cs (fun i o' u' hi => hx (i + 1) o' u' (by simpa using hi)) (by omega)
    have hlen : xs.length = P.cellsOf u := by rw [k2.1]; simp; omega
    refine ⟨xs ++ zs, ?_, ?_⟩
    · simp only [FitL]; exact ⟨xs, zs, rfl, hlen, k1, m1⟩
    · have e : cs.drop o = (cs.drop o).take (P.cellsOf u) ++ cs.drop (o + P.cellsOf u) := by
        rw [← List.drop_drop, List.take_append_drop]
      rw [e]; exact k2.append m2
end
end
end Go.Proofs.YtfoenhiohhmnlaaGreatDoor.Ix

namespace Go.Proofs.YtfoenhiohhmnlaaGreatDoor.Ix
set_option linter.unusedVariables false
mutual
def shpB (P : Program) : Shp → TypeId → Bool
  | .int k, t => match P.underlying t with
    | some (.int k') => decide (k' = k)
    | _ => false
  | .bool, t => match P.underlying t with
    | some .bool => true
    | _ => false
  | .str, t => match P.underlying t with
    | some .string => true
    | _ => false
  | .slice e s, t => match P.underlying t with
    | some (.slice u) => Nat.beq (P.cellsOf u) e && Nat.blt 0 e && shpB P s u
    | _ => false
  | .agg l, t => Nat.beq (P.cellsOf t) (total l) && match P.underlying t with
    | some (.struct fs) => shpsB P l 0 (fs.toList.map fun f => (f.offset, f.type))
    | some (.array n e) => shpsB P l 0 ((List.range n).map fun i => (i * P.cellsOf e, e))
    | _ => false
def shpsB (P : Program) : List (Nat × Shp) → Nat → List (Nat × TypeId) → Bool
  | [], _, [] => true
  | (sz, s) :: l, off, (o, u) :: r => Nat.beq o off && Nat.beq (P.cellsOf u) sz && shpB P s u && shpsB P l (off + sz) r
  | _, _, _ => false
end
mutual
theorem shp_ok {P : Program} : ∀ (s : Shp) (t : TypeId), shpB P s t = true → ShpOK P s t
  | .int k, t, h => by
    simp only [shpB] at h
    split at h
    · rename_i k' hk; simp at h; subst h; exact hk
    · cases h
  | .bool, t, h => by
    simp only [shpB] at h
    split at h
    · assumption
    · cases h
  | .str, t, h => by
    simp only [shpB] at h
    split at h
    · assumption
    · cases h
  | .slice e s, t, h => by
    simp only [shpB] at h
    split at h
    · rename_i u hu
      simp only [Bool.and_eq_true, beq_iff] at h
      exact ⟨u, hu, h.1.1, blt_lt h.1.2, shp_ok s u h.2⟩
    · cases h
  | .agg l, t, h => by
    simp only [shpB, Bool.and_eq_true, beq_iff] at h
    obtain ⟨h1, h2⟩ := h
    refine ⟨h1, ?_⟩
    split at h2
    · rename_i fs hf; exact .inl ⟨fs, hf, shps_ok l _ _ h2⟩
    · rename_i n e hf; exact .inr ⟨n, e, hf, shps_ok l _ _ h2⟩
    · cases h2
theorem shps_ok {P : Program} : ∀ (l : List (Nat × Shp)) (off : Nat) (ts : List (Nat × TypeId)), shpsB P l off ts = true → ShpOKs P l off ts
  | [], _, [], _ => trivial
  | [], _, _ :: _, h => by simp [shpsB] at h
  | (sz, s) :: l, off, [], h => by simp [shpsB] at h
  | (sz, s) :: l, off, (o, u) :: r, h => by
    simp only [shpsB, Bool.and_eq_true, beq_iff] at h
    exact ⟨h.1.1.1, h.1.1.2, shp_ok s u h.1.2, shps_ok l _ r h.2⟩
end
def FitV : Shp → IV → Prop
  | .agg l, v => ∃ xs, v = .agg xs ∧ FitL l xs
  | s, v => Fit s [v]
section
variable {H : Type} {enc : TypeId × Value → H} {P : Program} {w : World} {held : Bool} {base : Nat}
theorem open_shp {r : Reach} {b0 : Nat} (s : Shp) (t : TypeId) (hs : ShpOK P s t) {v : Value} {d : DataW H} {p : List MemPlace} (hval : Value.okWide P w r b0 t v) (h : DataW.Trod enc P w 0 (fun _ => true) held t v d p) :
    ∃ x, FitV s x ∧ D (fun a => w.cell? a) x v := by
  obtain ⟨fuel, h⟩ := h
  obtain ⟨xs, h1, h2, h3⟩ := fit_of_trod s t hs fuel _ _ h
  have plain : v.cells = #[v] → (∃ x, xs = [x]) → ∃ x, xs = [x] ∧ D (fun a => w.cell? a) x v := fun e hx => by
    obtain ⟨x, rfl⟩ := hx
    refine ⟨x, rfl, ?_⟩
    have := (h3 0 x rfl).1
    rw [e] at this; exact this
  cases s with
  | agg l =>
    simp only [ShpOK] at hs
    have : ∃ cs, v = .agg cs := by
      unfold Value.okWide at hval
      obtain ⟨_, ⟨fs, hu, _⟩ | ⟨n, e, hu, _⟩⟩ := hs
      · rw [hu] at hval; exact ⟨_, hval.choose_spec.1⟩
      · rw [hu] at hval; exact ⟨_, hval.choose_spec.1⟩
    obtain ⟨cs, rfl⟩ := this
    refine ⟨.agg xs, ⟨xs, rfl, h1⟩, .agg xs cs (by simpa [Value.cells] using h2) (fun j u hu => ?_) (fun j x hx => ?_)⟩
    · have hlt : j < xs.length := by rw [h2]; simpa [Value.cells] using (Array.getElem?_eq_some_iff.1 hu).1
      have := (h3 j _ (List.getElem?_eq_getElem hlt)).2
      simp only [Value.cells, List.getD_eq_getElem?_getD, Array.getElem?_toList, hu] at this
      exact this
    · have := (h3 j x hx).1
      simp only [Value.cells, List.getD_eq_getElem?_getD, Array.getElem?_toList] at this
      rw [Array.getD_eq_getD_getElem?]; exact this
  | int k =>
    simp only [ShpOK] at hs
    obtain ⟨n, rfl, hw⟩ := h1
    obtain ⟨m, hm, _, _⟩ := DataW.trod_int hs h
    have e : v.cells = #[v] := by cases v <;> simp_all [Value.cells, Value.okWide, Cell.okWide, Cell.ok]
    obtain ⟨x, hx, hD⟩ := plain e ⟨_, rfl⟩
    cases hx
    exact ⟨_, ⟨n, rfl, hw⟩, hD⟩
  | bool =>
    simp only [ShpOK] at hs
    obtain ⟨n, rfl⟩ := h1
    have e : v.cells = #[v] := by cases v <;> simp_all [Value.cells, Value.okWide, Cell.okWide, Cell.ok]
    obtain ⟨x, hx, hD⟩ := plain e ⟨_, rfl⟩
    cases hx
    exact ⟨_, ⟨n, rfl⟩, hD⟩
  | str =>
    simp only [ShpOK] at hs
    obtain ⟨n, rfl, hn⟩ := h1
    have e : v.cells = #[v] := by cases v <;> simp_all [Value.cells, Value.okWide, Cell.okWide, Cell.ok]
    obtain ⟨x, hx, hD⟩ := plain e ⟨_, rfl⟩
    cases hx
    exact ⟨_, ⟨n, rfl, hn⟩, hD⟩
  | slice e s =>
    simp only [ShpOK] at hs
    obtain ⟨u, hu, _⟩ := hs
    obtain ⟨n, f, rfl, hn⟩ := h1
    have e : v.cells = #[v] := by cases v <;> simp_all [Value.cells, Value.okWide, Cell.okWide, Cell.ok]
    obtain ⟨x, hx, hD⟩ := plain e ⟨_, rfl⟩
    cases hx
    exact ⟨_, ⟨n, f, rfl, hn⟩, hD⟩
theorem open_shps {r : Reach} {b0 : Nat} : ∀ (ss : List Shp) (ts : List TypeId) (vs : List Value) (ds : List (DataW H)) (p : List MemPlace), ss.length = ts.length → (∀ (j : Nat) s t, ss[j]? = some s → ts[j]? = some t → ShpOK P s t) →
    (∀ (j : Nat) t v, ts[j]? = some t → vs[j]? = some v → Value.okWide P w r b0 t v) → DataW.TrodAll enc P w 0 (fun _ => true) held ts vs ds p →
    ∃ xs : List IV, xs.length = vs.length ∧ vs.length = ss.length ∧ (∀ (j : Nat) s x, ss[j]? = some s → xs[j]? = some x → FitV s x) ∧ ∀ (j : Nat) x, xs[j]? = some x → D (fun a => w.cell? a) x (vs.getD j undef)
  | [], [], vs, ds, p, _, _, _, h => by
    cases vs <;> cases ds <;> simp [DataW.TrodAll] at h
    exact ⟨[], rfl, rfl, fun j s x h => by simp at h, fun j x h => by simp at h⟩
  | [], _ :: _, _, _, _, hl, _, _, _ => by simp at hl
  | _ :: _, [], _, _, _, hl, _, _, _ => by simp at hl
  | s :: ss, t :: ts, vs, ds, p, hl, hs, hv, h => by
    obtain ⟨v, vs', d, ds', p1, p2, rfl, rfl, rfl, h1, h2⟩ := Go.ChangeShapes.trodAll_cons h
    obtain ⟨x, g1, g2⟩ := open_shp s t (hs 0 s t rfl rfl) (hv 0 t v rfl rfl) h1
    obtain ⟨xs, k0, k1, k2, k3⟩ := open_shps ss ts vs' ds' p2 (by simpa using hl) (fun j s t a b => hs (j + 1) s t (by simpa using a) (by simpa using b)) (fun j t v a b => hv (j + 1) t v (by simpa using a) (by simpa using b)) h2
    refine ⟨x :: xs, by simp [k0], by simp [k1], fun j s' x' a b => ?_, fun j x' b => ?_⟩
    · cases j with
      | zero => simp at a b; subst a b; exact g1
      | succ j => exact k2 j s' x' (by simpa using a) (by simpa using b)
    · cases j with
      | zero => simp at b; subst b; simpa using g2
      | succ j => simpa using k3 j x' (by simpa using b)
theorem trodAll_len : ∀ (ts : List TypeId) (vs : List Value) (ds : List (DataW H)) (p : List MemPlace) {spare : Nat → Bool}, DataW.TrodAll enc P w base spare held ts vs ds p → ds.length = ts.length
  | [], vs, ds, p, _, h => by
    cases vs <;> cases ds <;> simp [DataW.TrodAll] at h
    rfl
  | t :: ts, vs, ds, p, _, h => by
    obtain ⟨v, vs', d, ds', p1, p2, rfl, rfl, rfl, h1, h2⟩ := Go.ChangeShapes.trodAll_cons h
    simp [trodAll_len ts vs' ds' p2 h2]
theorem shut_all (hl : laidOutB P = true) {W W' : World} (hb : Go.RowKit.Below W.heap.size W W') : ∀ (ts : List TypeId) (vs : List Value) (ds : List (DataW H)) (p : List MemPlace), ts.all (fun t => P.readableRec t && Nat.blt t P.types.size) = true →
    DataW.TrodAll enc P W 0 (fun _ => true) true ts vs ds p → DataW.TrodAll enc P W' 0 (fun b => decide (b < W.heap.size)) true ts vs ds p
  | [], vs, ds, p, _, h => by
    cases vs <;> cases ds <;> simp [DataW.TrodAll] at h ⊢
    exact h
  | t :: ts, vs, ds, p, ht, h => by
    obtain ⟨v, vs', d, ds', p1, p2, rfl, rfl, rfl, h1, h2⟩ := Go.ChangeShapes.trodAll_cons h
    simp only [List.all_cons, Bool.and_eq_true] at ht
    have lt : ∀ x ∈ p1, x.block < W.heap.size := by
      obtain ⟨m, hm⟩ := h1; exact DataW.trod_lt m _ _ _ hm
    exact ⟨_, _, (Go.RowKit.Below.trod hl ht.1.1 (blt_lt ht.1.2) h1 hb lt), shut_all hl hb ts vs' ds' p2 ht.2 h2, rfl⟩
end
theorem Comp.runG {P : Program} {gl : Nat → IV} {g : Nat} {args : List IV} {r : IV} {up' : List Ces} (h : Comp P gl g [] args r up') {vals : Array Value} {W : World} (hg : ∀ g, D (fun a => W.cell? a) (gl g) (.pointer (some ⟨g, 0, none⟩))) (hz : Gsz gl W) (hl : args.length = vals.size)
    (ha : ∀ (j : Nat) x, args[j]? = some x → D (fun a => W.cell? a) x (vals.getD j undef)) :
    Calls P g vals W fun e W' => ∃ v, e = .returned v ∧ (∃ I s, V I (under fun _ _ => none) s r v) ∧ Go.RowKit.Below W.heap.size W W' := by
  have hm : MemR gl [] W (fun a => W.cell? a) (fun b => b < W.heap.size) (fun _ _ => none) (fun _ => noSig) := by
    refine ⟨fun l d c hc => ?_, fun l d l' d' b h1 => (by cases h1), fun l d b h1 => (by cases h1), fun a v h => hcell_of_cell h, hg, fun b h => h, hz⟩
    simp [upC, lookC] at hc
  refine (h.2 vals W (fun a => W.cell? a) (fun b => b < W.heap.size) (fun _ _ => none) (fun _ => noSig) hm hl (fun j x hx => .data (ha j x hx))).mono fun e W' hh => ?_
  obtain ⟨v, I', s, e1, e2, _, _, e5⟩ := hh
  exact ⟨v, e1, ⟨I', s, e2⟩, ⟨e5.os, e5.tape, e5.output, e5.size, fun k hk => e5.keep k hk⟩⟩
theorem Comp.run {P : Program} {g : Nat} {args : List IV} {r : IV} {up' : List Ces} (h : Comp P (fun _ => .dead) g [] args r up') {vals : Array Value} {W : World} (hl : args.length = vals.size)
    (ha : ∀ (j : Nat) x, args[j]? = some x → D (fun a => W.cell? a) x (vals.getD j undef)) :
    Calls P g vals W fun e W' => ∃ v, e = .returned v ∧ (∃ I s, V I (under fun _ _ => none) s r v) ∧ Go.RowKit.Below W.heap.size W W' := h.runG (fun _ => .dead _) (fun _ _ _ _ _ _ h => by cases h) hl ha
mutual
def flatD {H : Type} : DataW H → List Value
  | .lit (.int k n) => [.int k n]
  | .lit (.string bs) => [.string ⟨bs.toArray⟩]
  | .agg parts => flatDs parts
  | _ => []
def flatDs {H : Type} : List (DataW H) → List Value
  | [] => []
  | d :: r => flatD d ++ flatDs r
end
mutual
def flatS : Shp → Bool
  | .int _ => true
  | .str => true
  | .agg l => flatSs l
  | _ => false
def flatSs : List (Nat × Shp) → Bool
  | [] => true
  | (_, s) :: r => flatS s && flatSs r
end
section
variable {H : Type} {enc : TypeId × Value → H} {P : Program} {w : World} {held : Bool} {spare : Nat → Bool}
theorem shps_len : ∀ (l : List (Nat × Shp)) (off : Nat) (ts : List (Nat × TypeId)), ShpOKs P l off ts → ts.length = l.length
  | [], off, [], h => rfl
  | [], off, _ :: _, h => by simp [ShpOKs] at h
  | (sz, s) :: l, off, [], h => by simp [ShpOKs] at h
  | (sz, s) :: l, off, (o, u) :: r, h => by
    simp only [ShpOKs] at h
    simp [shps_len l _ r h.2.2.2]
mutual
theorem flat_of_trod : ∀ (s : Shp) (t : TypeId), ShpOK P s t → flatS s = true → ∀ (fuel : Nat) (cs : List Value) (x : DataW H × List MemPlace), DataW.trod enc P w 0 spare held fuel t cs = some x → flatD x.1 = cs
  | .int k, t, ht, _, fuel, cs, x, h => by
    simp only [ShpOK] at ht
    obtain ⟨n, rfl, rfl, hw⟩ := DataW.trod_int ht h
    rfl
  | .bool, t, ht, hf, fuel, cs, x, h => by simp [flatS] at hf
  | .str, t, ht, hf, fuel, cs, x, h => by
    simp only [ShpOK] at ht
    obtain ⟨s, rfl, rfl, hs⟩ := DataW.trod_string ht h
    simp [flatD]
  | .slice e s, t, ht, hf, fuel, cs, x, h => by simp [flatS] at hf
  | .agg l, t, ht, hf, fuel, cs, x, h => by
    simp only [ShpOK] at ht
    simp only [flatS] at hf
    obtain ⟨hsz, ⟨fs, hu, hfs⟩ | ⟨n, e, hu, hfs⟩⟩ := ht
    · obtain ⟨ys, n, _, rfl, hcl, hyl, hy⟩ := DataW.trod_struct hu h
      have hlen := shps_len l 0 _ hfs
      simp only [List.length_map, Array.length_toList] at hlen
      have := flats_of_trod l 0 _ hfs hf n cs ys (fun i o u hi => by
        simp only [List.getElem?_map, Option.map_eq_some_iff] at hi
        obtain ⟨f, hf, e⟩ := hi
        simp only [Prod.mk.injEq] at e
        obtain ⟨rfl, rfl⟩ := e
        exact hy i f (by simpa using hf)) (by simp [hyl]) (by omega)
      simpa [flatD] using this
    · obtain ⟨ys, m, _, rfl, hcl, hyl, hy⟩ := DataW.trod_array hu h
      have := flats_of_trod l 0 _ hfs hf m cs ys (fun i o u hi => by
        simp only [List.getElem?_map, Option.map_eq_some_iff] at hi
        obtain ⟨f, hf, e⟩ := hi
        simp only [Prod.mk.injEq] at e
        obtain ⟨rfl, rfl⟩ := e
        obtain ⟨hlt, rfl⟩ := List.getElem?_eq_some_iff.1 hf
        simp at hlt ⊢
        exact hy i hlt) (by simp [hyl]) (by omega)
      simpa [flatD] using this
theorem flats_of_trod : ∀ (l : List (Nat × Shp)) (off : Nat) (ts : List (Nat × TypeId)), ShpOKs P l off ts → flatSs l = true → ∀ (fuel : Nat) (cs : List Value) (xs : List (DataW H × List MemPlace)),
    (∀ (i : Nat) o u, ts[i]? = some (o, u) → DataW.trod enc P w 0 spare held fuel u ((cs.drop o).take (P.cellsOf u)) = xs[i]?) → xs.length = ts.length → cs.length = off + total l → flatDs (xs.map (·.1)) = cs.drop off
  | [], off, ts, h, _, fuel, cs, xs, hx, hxl, hl => by
    have h0 := shps_len [] off ts h
    have : xs = [] := by simpa using hxl.trans h0
    subst this
    simp [total] at hl
    simp [flatDs, hl]
  | (sz, s) :: l, off, [], h, _, fuel, cs, xs, hx, hxl, hl => by simp [ShpOKs] at h
  | (sz, s) :: l, off, (o, u) :: r, h, hf, fuel, cs, xs, hx, hxl, hl => by
    simp only [ShpOKs] at h
    obtain ⟨rfl, rfl, h3, h4⟩ := h
    simp only [total] at hl
    simp only [flatSs, Bool.and_eq_true] at hf
    cases xs with
    | nil => simp at hxl
    | cons y ys =>
      have hy := hx 0 o u rfl
      have k1 := flat_of_trod s u h3 hf.1 fuel _ y hy
      have k2 := flats_of_trod l (o + P.cellsOf u) r h4 hf.2 fuel cs ys (fun i o' u' hi => by have := hx (i + 1) o' u' (by simpa using hi); simpa using this) (by simpa using hxl) (by omega)
      simp only [List.map_cons, flatDs, k1, k2]
      rw [← List.drop_drop, List.take_append_drop]
end
end
end Go.Proofs.YtfoenhiohhmnlaaGreatDoor.Ix

namespace Go.Proofs.YtfoenhiohhmnlaaGreatDoor.Ix
set_option linter.unusedVariables false
theorem Below_cells {w w' : World} (h : Go.RowKit.Below w.heap.size w w') {k : Nat} {o : Obj} (hk : w.heap[k]? = some o) : w'.heap[k]? = some o := by
  rw [h.block k (heap_lt hk)]; exact hk
theorem MemR.below {gl : Nat → IV} {cs : List Ces} {w w' : World} {I : Imm} {X : Nat → Prop} {β : Beta} {σ : Nat → Sig} (m : MemR gl cs w I X β σ) (h : Go.RowKit.Below w.heap.size w w') : MemR gl cs w' I X β σ := by
  refine ⟨fun l d c hc => ?_, m.inj, m.keys, fun x v hx => ?_, m.glo, fun b hb => Nat.lt_of_lt_of_le (m.xb b hb) h.size, m.gz.of fun g arr el mm hg => ⟨arr, el, mm, Below_cells h hg, rfl⟩⟩
  · obtain ⟨b, arr, el, h1, h2, h3⟩ := m.cell l d c hc
    exact ⟨b, arr, el, h1, Below_cells h h2, h3⟩
  · have h1 := m.im x v hx
    rw [hcell_of_block (h.block x.block (hcell_lt h1))]; exact h1
theorem comp_of_below {P : Program} {gl : Nat → IV} {g : Nat} {up : List Ces} {args : List IV} {r : IV} {fn : Func} {c : Code} (hf : P.funcs[g]? = some fn) (hb : fn.body = some c) (hn : (fn.name == "runtime.NumGoroutine") = false)
    (h : ∀ (vals : Array Value) (w : World) (I : Imm) (X : Nat → Prop) (β : Beta) (σ : Nat → Sig), MemR gl up w I X β σ → args.length = vals.size →
      (∀ (j : Nat) x, args[j]? = some x → V I (under β) noSig x (vals.getD j undef)) → Calls P g vals w fun e w' => ∃ v, e = .returned v ∧ D I r v ∧ Go.RowKit.Below w.heap.size w w') : Comp P gl g up args r up := by
  refine ⟨⟨fn, c, hf, hb, hn⟩, fun vals w I X β σ m hl ha => (h vals w I X β σ m hl ha).mono ?_⟩
  rintro e w' ⟨v, he, hd, bel⟩
  exact ⟨v, I, noSig, he, .data hd, ⟨fun t g h => (by cases h), fun t t' g g' h => (by cases h)⟩, m.below bel,
    ⟨bel.os, bel.tape, bel.output, bel.size, fun b hb => bel.block b (m.xb b hb), fun _ _ h => h, fun _ _ => rfl, fun k o hk _ => Below_cells bel hk⟩⟩
theorem noSig_str {I : Imm} {β : Beta} {s : ByteArray} {v : Value} (h : V I β noSig (.str s) v) : v = .string s := by
  cases h with
  | data h => cases h; rfl
theorem noSig_int {I : Imm} {β : Beta} {k : IntKind} {n : Int} {v : Value} (h : V I β noSig (.int k n) v) : v = .int k n := by
  cases h with
  | data h => cases h; rfl
theorem noSig_strs {I : Imm} {β : Beta} {n : Nat} {f : Nat → List IV} (s : Nat → ByteArray) (hf : ∀ i, i < n → f i = [.str (s i)]) {v : Value} (h : V I β noSig (.lst none 1 n f) v) :
    (n = 0 ∧ ∃ p, v = .slice p 0 0) ∨ ∃ b o c, v = .slice (some ⟨b, o, none⟩) n c ∧ n ≤ c ∧ ∀ i, i < n → I ⟨b, o + i, none⟩ = some (.string (s i)) := by
  cases h with
  | data h =>
    cases h with
    | lstN e f => exact .inl ⟨rfl, _, rfl⟩
    | lst e n f b off c g hc hl hI h1 h =>
      refine .inr ⟨b, off, c, rfl, hc, fun i hi => ?_⟩
      have hd := h i 0 _ hi (by rw [hf i hi]; rfl)
      have hs : g i 0 = .string (s i) := by generalize g i 0 = u at hd; cases hd; rfl
      have := hI i 0 hi (by decide)
      rw [hs] at this
      simpa using this
theorem tab_of {P : Program} {gl : Nat → IV} {cs : List Ces} {w : World} {I : Imm} {X : Nat → Prop} {β : Beta} {σ : Nat → Sig} (m : MemR gl cs w I X β σ) {name : String} {g : Nat} {k : IntKind} {zs : List Int} (hg : P.globalNamed name = some g)
    (h : gl g = .vptr zs.length 1 (fun _ => zs.map fun z => .int k z) 0 0) (hz : 0 < zs.length) : Go.Lib.TabIs P w name k zs := by
  obtain ⟨arr, el, mm, h1, h2⟩ := m.gz g _ _ _ _ _ h (by decide) hz
  have hd := m.glo g
  rw [h] at hd
  generalize hv : Value.pointer (some ⟨g, 0, none⟩) = v at hd
  cases hd with
  | vptr e n f i j b off gg hi hl hI h1' hD =>
    simp at hv
    obtain ⟨rfl, hoff⟩ := hv
    subst hoff
    unfold Go.Lib.TabIs World.var?
    rw [hg]
    simp only [Option.bind_some, h1]
    congr 1
    apply Array.ext
    · simp [h2]
    · intro j hj hj'
      have hj2 : j < zs.length := by simpa using hj'
      have hx := m.im _ _ (hI 0 j (by decide) hj2)
      have hd := hD 0 j (.int k zs[j]) (by decide) (by simp [hj2])
      have hs : gg 0 j = .int k zs[j] := by generalize gg 0 j = u at hd; cases hd; rfl
      rw [hs] at hx
      simp [hcell, h1] at hx
      rw [Array.getElem?_eq_getElem hj] at hx
      simpa using hx
end Go.Proofs.YtfoenhiohhmnlaaGreatDoor.Ix

namespace Go.Proofs.YtfoenhiohhmnlaaGreatDoor.Ix
open Go.Proofs Go.Shelf
def laysItoa_ren : Go.Shelf.Ren := ⟨fun | 171 => 76 | 243 => 98 | 246 => 118 | 283 => 129 | 284 => 130 | 285 => 131 | 286 => 132 | 129 => 139 | 317 => 138 | 318 => 140 | 319 => 141 | 320 => 142 | 337 => 143 | 338 => 144 | n => n, fun | 3 => 3 | 9 => 9 | 2 => 2 | 4 => 4 | 171 => 187 | 0 => 0 | 53 => 180 | 37 => 161 | 5 => 5 | 173 => 190 | 212 => 207 | 51 => 199 | 20 => 20 | 213 => 208 | 46 => 179 | 232 => 211 | 233 => 212 | n => n, fun | 17 => 6 | 18 => 7 | 19 => 8 | n => n⟩
theorem laysItoa : Go.Proofs.LaysM.n171 Tryz.prog laysItoa_ren := {
  mixed := by kernel_rfl
  f129 := Tryz.func139.trans (congrArg some (by kernel_rfl))
  f171 := Tryz.func76.trans (congrArg some (by kernel_rfl))
  f243 := Tryz.func98.trans (congrArg some (by kernel_rfl))
  f246 := Tryz.func118.trans (congrArg some (by kernel_rfl))
  f283 := Tryz.func129.trans (congrArg some (by kernel_rfl))
  f284 := Tryz.func130.trans (congrArg some (by kernel_rfl))
  f285 := Tryz.func131.trans (congrArg some (by kernel_rfl))
  f286 := Tryz.func132.trans (congrArg some (by kernel_rfl))
  f317 := Tryz.func138.trans (congrArg some (by kernel_rfl))
  f318 := Tryz.func140.trans (congrArg some (by kernel_rfl))
  f319 := Tryz.func141.trans (congrArg some (by kernel_rfl))
  f320 := Tryz.func142.trans (congrArg some (by kernel_rfl))
  f337 := Tryz.func143.trans (congrArg some (by kernel_rfl))
  f338 := Tryz.func144.trans (congrArg some (by kernel_rfl))
  t0 := Tryz.underlying0
  a0 := Tryz.isAgg0
  z0 := Tryz.sizeOf0
  v0 := Tryz.zeroValue0
  t2 := Tryz.underlying2
  a2 := Tryz.isAgg2
  z2 := Tryz.sizeOf2
  v2 := Tryz.zeroValue2
  t3 := Tryz.underlying3
  a3 := Tryz.isAgg3
  z3 := Tryz.sizeOf3
  v3 := Tryz.zeroValue3
  t4 := Tryz.underlying4
  a4 := Tryz.isAgg4
  z4 := Tryz.sizeOf4
  v4 := Tryz.zeroValue4
  t5 := Tryz.underlying5
  a5 := Tryz.isAgg5
  z5 := Tryz.sizeOf5
  v5 := Tryz.zeroValue5
  t9 := Tryz.underlying9
  a9 := Tryz.isAgg9
  z9 := Tryz.sizeOf9
  v9 := Tryz.zeroValue9
  t20 := Tryz.underlying20
  a20 := Tryz.isAgg20
  z20 := Tryz.sizeOf20
  v20 := Tryz.zeroValue20
  t37 := Tryz.underlying161
  a37 := Tryz.isAgg161
  z37 := Tryz.sizeOf161
  v37 := Tryz.zeroValue161
  t46 := Tryz.underlying179
  a46 := Tryz.isAgg179
  z46 := Tryz.sizeOf179
  v46 := Tryz.zeroValue179
  t51 := Tryz.underlying199
  a51 := Tryz.isAgg199
  z51 := Tryz.sizeOf199
  v51 := Tryz.zeroValue199
  t53 := Tryz.underlying180
  a53 := Tryz.isAgg180
  z53 := Tryz.sizeOf180
  v53 := Tryz.zeroValue180
  t171 := Tryz.underlying187
  a171 := Tryz.isAgg187
  z171 := Tryz.sizeOf187
  v171 := Tryz.zeroValue187
  t173 := Tryz.underlying190
  a173 := Tryz.isAgg190
  z173 := Tryz.sizeOf190
  v173 := Tryz.zeroValue190
  t212 := Tryz.underlying207
  a212 := Tryz.isAgg207
  z212 := Tryz.sizeOf207
  v212 := Tryz.zeroValue207
  t213 := Tryz.underlying208
  a213 := Tryz.isAgg208
  z213 := Tryz.sizeOf208
  t232 := Tryz.underlying211
  a232 := Tryz.isAgg211
  z232 := Tryz.sizeOf211
  v232 := Tryz.zeroValue211
  t233 := Tryz.underlying212
  a233 := Tryz.isAgg212
  z233 := Tryz.sizeOf212
  v233 := Tryz.zeroValue212
  g17 := by kernel_rfl
  g18 := by kernel_rfl
  g19 := by kernel_rfl
  i0 := by kernel_rfl
  i2 := by kernel_rfl
  i3 := by kernel_rfl
  i4 := by kernel_rfl
  i5 := by kernel_rfl
  i9 := by kernel_rfl
  i20 := by kernel_rfl
  i37 := by kernel_rfl
  i46 := by kernel_rfl
  i51 := by kernel_rfl
  i53 := by kernel_rfl
  i171 := by kernel_rfl
  i173 := by kernel_rfl
  i212 := by kernel_rfl
  i232 := by kernel_rfl
  i233 := by kernel_rfl
  m17 := by kernel_rfl
  m18 := by kernel_rfl
  m19 := by kernel_rfl }
def laysJoin_ren : Go.Shelf.Ren := ⟨fun | 156 => 81 | 165 => 101 | 166 => 102 | 169 => 103 | 240 => 120 | 241 => 121 | 276 => 133 | 277 => 134 | n => n, fun | 31 => 46 | 9 => 9 | 3 => 3 | 4 => 4 | 0 => 0 | 20 => 20 | 72 => 163 | 76 => 137 | 70 => 160 | 37 => 161 | 75 => 136 | 127 => 178 | 164 => 192 | 5 => 5 | 80 => 165 | n => n, fun | n => n⟩
theorem laysJoin : Go.Proofs.Lays.n156 Tryz.prog laysJoin_ren := {
  mixed := by kernel_rfl
  f156 := Tryz.func81.trans (congrArg some (by kernel_rfl))
  f165 := Tryz.func101.trans (congrArg some (by kernel_rfl))
  f166 := Tryz.func102.trans (congrArg some (by kernel_rfl))
  f169 := Tryz.func103.trans (congrArg some (by kernel_rfl))
  f240 := Tryz.func120.trans (congrArg some (by kernel_rfl))
  f241 := Tryz.func121.trans (congrArg some (by kernel_rfl))
  f276 := Tryz.func133.trans (congrArg some (by kernel_rfl))
  f277 := Tryz.func134.trans (congrArg some (by kernel_rfl))
  t0 := Tryz.underlying0
  a0 := Tryz.isAgg0
  z0 := Tryz.sizeOf0
  v0 := Tryz.zeroValue0
  t3 := Tryz.underlying3
  a3 := Tryz.isAgg3
  z3 := Tryz.sizeOf3
  v3 := Tryz.zeroValue3
  t4 := Tryz.underlying4
  a4 := Tryz.isAgg4
  z4 := Tryz.sizeOf4
  v4 := Tryz.zeroValue4
  t9 := Tryz.underlying9
  a9 := Tryz.isAgg9
  z9 := Tryz.sizeOf9
  v9 := Tryz.zeroValue9
  t20 := Tryz.underlying20
  a20 := Tryz.isAgg20
  z20 := Tryz.sizeOf20
  v20 := Tryz.zeroValue20
  t31 := Tryz.underlying46
  a31 := Tryz.isAgg46
  z31 := Tryz.sizeOf46
  v31 := Tryz.zeroValue46
  t37 := Tryz.underlying161
  a37 := Tryz.isAgg161
  z37 := Tryz.sizeOf161
  v37 := Tryz.zeroValue161
  t70 := Tryz.underlying160
  a70 := Tryz.isAgg160
  z70 := Tryz.sizeOf160
  v70 := Tryz.zeroValue160
  t72 := Tryz.underlying163
  a72 := Tryz.isAgg163
  z72 := Tryz.sizeOf163
  v72 := Tryz.zeroValue163
  t75 := Tryz.underlying136
  a75 := Tryz.isAgg136
  z75 := Tryz.sizeOf136
  v75 := Tryz.zeroValue136
  t76 := Tryz.underlying137
  a76 := Tryz.isAgg137
  z76 := Tryz.sizeOf137
  v76 := Tryz.zeroValue137
  t127 := Tryz.underlying178
  a127 := Tryz.isAgg178
  z127 := Tryz.sizeOf178
  v127 := Tryz.zeroValue178
  t164 := Tryz.underlying192
  a164 := Tryz.isAgg192
  z164 := Tryz.sizeOf192
  v164 := Tryz.zeroValue192 }
def laysIndexByte_ren : Go.Shelf.Ren := ⟨fun | 137 => 70 | 217 => 91 | 266 => 108 | n => n, fun | 9 => 9 | 5 => 5 | 3 => 3 | n => n, fun | n => n⟩
theorem laysIndexByte : Go.Proofs.Lays.n137 Tryz.prog laysIndexByte_ren := {
  mixed := by kernel_rfl
  f137 := Tryz.func70.trans (congrArg some (by kernel_rfl))
  f217 := Tryz.func91.trans (congrArg some (by kernel_rfl))
  f266 := Tryz.func108.trans (congrArg some (by kernel_rfl))
  t3 := Tryz.underlying3
  a3 := Tryz.isAgg3
  z3 := Tryz.sizeOf3
  v3 := Tryz.zeroValue3
  t5 := Tryz.underlying5
  a5 := Tryz.isAgg5
  z5 := Tryz.sizeOf5
  v5 := Tryz.zeroValue5
  t9 := Tryz.underlying9
  a9 := Tryz.isAgg9
  z9 := Tryz.sizeOf9
  v9 := Tryz.zeroValue9 }
def laysGenSplit_ren : Go.Shelf.Ren := ⟨fun | 221 => 72 | 268 => 93 | 138 => 94 | 143 => 95 | 195 => 109 | 197 => 110 | 218 => 111 | 219 => 112 | 260 => 122 | 217 => 91 | 225 => 123 | 224 => 124 | 267 => 125 | 266 => 108 | 314 => 135 | n => n, fun | 9 => 9 | 3 => 3 | 31 => 46 | 4 => 4 | 0 => 0 | 105 => 169 | 21 => 21 | 5 => 5 | 46 => 179 | 119 => 195 | 139 => 198 | 138 => 197 | 146 => 200 | 51 => 199 | n => n, fun | 1 => 1 | 3 => 4 | 4 => 5 | n => n⟩
theorem laysGenSplit : Go.Proofs.Lays.n221 Tryz.prog laysGenSplit_ren := {
  mixed := by kernel_rfl
  f138 := Tryz.func94.trans (congrArg some (by kernel_rfl))
  f143 := Tryz.func95.trans (congrArg some (by kernel_rfl))
  f195 := Tryz.func109.trans (congrArg some (by kernel_rfl))
  f197 := Tryz.func110.trans (congrArg some (by kernel_rfl))
  f217 := Tryz.func91.trans (congrArg some (by kernel_rfl))
  f218 := Tryz.func111.trans (congrArg some (by kernel_rfl))
  f219 := Tryz.func112.trans (congrArg some (by kernel_rfl))
  f221 := Tryz.func72.trans (congrArg some (by kernel_rfl))
  f224 := Tryz.func124.trans (congrArg some (by kernel_rfl))
  f225 := Tryz.func123.trans (congrArg some (by kernel_rfl))
  f260 := Tryz.func122.trans (congrArg some (by kernel_rfl))
  f266 := Tryz.func108.trans (congrArg some (by kernel_rfl))
  f267 := Tryz.func125.trans (congrArg some (by kernel_rfl))
  f268 := Tryz.func93.trans (congrArg some (by kernel_rfl))
  f314 := Tryz.func135.trans (congrArg some (by kernel_rfl))
  t0 := Tryz.underlying0
  a0 := Tryz.isAgg0
  z0 := Tryz.sizeOf0
  v0 := Tryz.zeroValue0
  t3 := Tryz.underlying3
  a3 := Tryz.isAgg3
  z3 := Tryz.sizeOf3
  v3 := Tryz.zeroValue3
  t4 := Tryz.underlying4
  a4 := Tryz.isAgg4
  z4 := Tryz.sizeOf4
  v4 := Tryz.zeroValue4
  t5 := Tryz.underlying5
  a5 := Tryz.isAgg5
  z5 := Tryz.sizeOf5
  v5 := Tryz.zeroValue5
  t9 := Tryz.underlying9
  a9 := Tryz.isAgg9
  z9 := Tryz.sizeOf9
  v9 := Tryz.zeroValue9
  t21 := Tryz.underlying21
  a21 := Tryz.isAgg21
  z21 := Tryz.sizeOf21
  v21 := Tryz.zeroValue21
  t31 := Tryz.underlying46
  a31 := Tryz.isAgg46
  z31 := Tryz.sizeOf46
  v31 := Tryz.zeroValue46
  t46 := Tryz.underlying179
  a46 := Tryz.isAgg179
  z46 := Tryz.sizeOf179
  v46 := Tryz.zeroValue179
  t51 := Tryz.underlying199
  a51 := Tryz.isAgg199
  z51 := Tryz.sizeOf199
  v51 := Tryz.zeroValue199
  t105 := Tryz.underlying169
  a105 := Tryz.isAgg169
  z105 := Tryz.sizeOf169
  v105 := Tryz.zeroValue169
  t119 := Tryz.underlying195
  a119 := Tryz.isAgg195
  z119 := Tryz.sizeOf195
  t138 := Tryz.underlying197
  a138 := Tryz.isAgg197
  z138 := Tryz.sizeOf197
  v138 := Tryz.zeroValue197
  t139 := Tryz.underlying198
  a139 := Tryz.isAgg198
  z139 := Tryz.sizeOf198
  v139 := Tryz.zeroValue198
  t146 := Tryz.underlying200
  a146 := Tryz.isAgg200
  z146 := Tryz.sizeOf200
  v146 := Tryz.zeroValue200
  g1 := by kernel_rfl
  g3 := by kernel_rfl
  g4 := by kernel_rfl }
theorem extraJoin : Builder.Extra Tryz.prog laysJoin_ren := {
  sizeBuilder := by kernel_rfl
  liesBuilder := by kernel_rfl
  t5 := Tryz.underlying5
  a5 := Tryz.isAgg5
  z5 := Tryz.sizeOf5
  v5 := Tryz.zeroValue5
  infoByte := by kernel_rfl
  cellsByte := by kernel_rfl
  sizeByte := by kernel_rfl
  neB5 := by decide }
end Go.Proofs.YtfoenhiohhmnlaaGreatDoor.Ix

namespace Go.Proofs.YtfoenhiohhmnlaaGreatDoor.Ix
open Go.Proofs
set_option maxRecDepth 100000
set_option linter.unusedVariables false
set_option linter.unusedSimpArgs false
variable {gl : Nat → IV}
noncomputable abbrev powI : IV := .vptr Go.Lib.pow10Tab.length 1 (fun _ => Go.Lib.pow10Tab.map fun z => .int .u64 z) 0 0
theorem gPow : prog.globalNamed "internal/strconv.uint64pow10" = some g_internal_strconv_uint64pow10 := by kernel_rfl
theorem one_arg {vals : Array Value} (h : 1 = vals.size) : ∃ v, vals = #[v] := by
  rcases vals with ⟨l⟩
  match l, h with
  | [v], _ => exact ⟨v, rfl⟩
theorem two_args {vals : Array Value} (h : 2 = vals.size) : ∃ v u, vals = #[v, u] := by
  rcases vals with ⟨l⟩
  match l, h with
  | [v, u], _ => exact ⟨v, u, rfl⟩
theorem c_Itoa (up : List Ces) (hg : gl g_internal_strconv_uint64pow10 = powI) (n : Int) (hn : i64 n) : Cs gl n_strconv_Itoa up [.int .i64 n] (.str (bytesS (Go.Lib.itoa n))) up := by
  refine comp_of_below h_strconv_Itoa rfl rfl fun vals w I X β σ m hl ha => ?_
  obtain ⟨v, rfl⟩ := one_arg hl
  have hv := noSig_int (ha 0 _ rfl)
  have hv : v = .int .i64 n := hv
  subst hv
  refine (Any.strconv_Itoa laysItoa n hn.1 hn.2 w (tab_of m gPow hg (by rw [Go.Lib.pow10Tab_length]; decide))).mono ?_
  rintro e w' ⟨rfl, k, os, rfl⟩
  refine ⟨_, rfl, .str _, rfl, rfl, rfl, by simp [Go.Sort.grow, World.drewN], fun k hk => ?_⟩
  simp only [Go.Sort.grow, World.drewN]
  rw [Array.getElem?_append_left hk]
theorem c_Join (up : List Ces) (n : Nat) (f : Nat → List IV) (s : Nat → List UInt8) (sep : List UInt8) (hf : ∀ i, i < n → f i = [.str (bytesS (s i))]) (hn : n ≤ 1000000) (hl : (Go.Lib.join ((List.range n).map s) sep).length ≤ 140737488355328) :
    Cs gl n_strings_Join up [.lst none 1 n f, .str (bytesS sep)] (.str (bytesS (Go.Lib.join ((List.range n).map s) sep))) up := by
  refine comp_of_below h_strings_Join rfl rfl fun vals w I X β σ m hlen ha => ?_
  obtain ⟨v, u, rfl⟩ := two_args hlen
  have hu : u = .string (bytesS sep) := noSig_str (ha 1 _ rfl)
  subst hu
  rcases noSig_strs (fun i => bytesS (s i)) hf (ha 0 _ rfl) with ⟨rfl, p, hv⟩ | ⟨b, o, c, hv, hc, hI⟩
  · have hv : v = .slice p 0 0 := hv
    subst hv
    refine (Any.strings_Join_none laysJoin extraJoin p 0 (bytesS sep) w).mono ?_
    rintro e w' ⟨rfl, rfl⟩
    exact ⟨_, rfl, .str _, Go.RowKit.Below.refl _ _⟩
  · have hv : v = .slice (some ⟨b, o, none⟩) n c := hv
    subst hv
    by_cases h0 : n = 0
    · subst h0
      refine (Any.strings_Join_none laysJoin extraJoin (some ⟨b, o, none⟩) c (bytesS sep) w).mono ?_
      rintro e w' ⟨rfl, rfl⟩
      exact ⟨_, rfl, .str _, Go.RowKit.Below.refl _ _⟩
    · have hcell : ∀ (j : Nat) x, ((List.range n).map fun i => bytesS (s i))[j]? = some x → w.cell? ⟨b, o + j, none⟩ = some (.string x) := fun j x hx => by
        rw [List.getElem?_map] at hx
        by_cases hj : j < n
        · rw [List.getElem?_range hj] at hx
          cases hx
          have := m.im _ _ (hI j hj); rw [hcell_none] at this; exact this
        · rw [List.getElem?_eq_none (by simp; omega)] at hx; cases hx
      have e : ((List.range n).map fun i => bytesS (s i)).map (fun x => x.data.toList) = (List.range n).map s := by
        rw [List.map_map]
        exact List.map_congr_left fun i _ => bytesS_data (s i)
      have hb : b < w.heap.size := hcell_lt (m.im _ _ (hI 0 (by omega)))
      have hJ := Any.strings_Join laysJoin extraJoin b o c ((List.range n).map fun i => bytesS (s i)) (bytesS sep) w hcell hb (by simp; omega) (by simpa using hc) (by rw [e, bytesS_data]; exact hl)
      rw [e, bytesS_data] at hJ
      have hsz : ((List.range n).map fun i => bytesS (s i)).length = n := by simp
      rw [hsz] at hJ
      refine hJ.mono ?_
      rintro e w' ⟨rfl, bel⟩
      exact ⟨_, rfl, .str _, bel⟩
theorem c_mappedS (up : List Ces) (n : Nat) (hn : n ≤ 1000000) (f : Nat → Int) (φ : Nat → ByteArray) (k : Nat) (hk : ∀ up i, i < n → Cs gl k up [.int .i64 (f i)] (.str (φ i)) up) :
    Cs gl n_rotor_mapped_int_string up [.lst none 1 n fun i => [.int .i64 (f i)], .fn k [] []] (.lst (some 19) 1 n fun i => [.str (φ i)]) up := by
  refine mk h_rotor_mapped_int_string rfl rfl ?_
  conv => whnf
  refine .mk (α := {i : Nat // i ≤ n}) (fun i => ⟨[(10, .int .i64 i.1), (9, .int .i64 n), (8, .lst none 1 n fun i => [.int .i64 (f i)]), (5, .lst (some 19) 1 i.1 fun i => [.str (φ i)]), (1, .fn k [] [])], [], up⟩) (fun i => n - i.1) ⟨0, Nat.zero_le _⟩ ⟨?_, trivial, rfl, rfl⟩ ?_
  · exact ⟨leV_refl _, leV_refl _, leV_refl _, rfl, leV_refl _, trivial⟩
  · rintro ⟨i, hi⟩
    conv => whnf
    split
    · rename_i hb
      have hlt : i < n := by simpa using hb
      conv => whnf
      split
      · conv => whnf
        refine .mk _ _ _ _ _ (leL_refl _) (hk _ i hlt) rfl ?_
        conv => whnf
        split
        · conv => whnf
          refine ⟨⟨i + 1, hlt⟩, ⟨?_, trivial, rfl, rfl⟩, ?_⟩
          · have hw : IntKind.i64.wrap ((i : Int) + 1) = ((i + 1 : Nat) : Int) := by
              rw [wrap_in] <;> omega
            refine ⟨leV_int hw, leV_refl _, leV_refl _, ⟨.inr rfl, rfl, rfl, fun j hj => ?_⟩, leV_refl _, trivial⟩
            show (if j < i then [IV.str (φ j)] else litF 1 [.str (φ i)] (j - i)) = [IV.str (φ j)]
            split
            · rfl
            · have : j = i := by have : j < i + 1 := hj; omega
              subst this; rw [Nat.sub_self]; rfl
          · show n - (i + 1) < n - i
            omega
        · rename_i h2
          have h2' : decide (i + 1 ≤ 1073741824) = false := h2
          simp at h2'; omega
      · rename_i h2; rw [hb] at h2; cases h2
    · rename_i hb
      have : i = n := by simp at hb; omega
      subst this
      conv => whnf
      exact ⟨rfl, rfl⟩
theorem c_line (up : List Ces) (hg : gl g_internal_strconv_uint64pow10 = powI) (w : List UInt8) (n : Nat) (f : Nat → Int) (hn : n ≤ 64) (hw : w.length ≤ 64) (hf : ∀ i, i < n → i64 (f i)) :
    Cs gl n_rotor_line up [.str (bytesS w), .lst none 1 n fun i => [.int .i64 (f i)]] (.str (bytesS (lineS w n f))) up := by
  refine mk h_rotor_line rfl rfl ?_
  have hlen := numsS_len n hf
  let s : Nat → List UInt8 := fun i => if i < 1 then w else Go.Lib.itoa (f (i - 1))
  have hs : (List.range (1 + n)).map s = w :: (List.range n).map fun i => Go.Lib.itoa (f i) := by
    rw [Nat.add_comm 1 n, List.range_succ_eq_map, List.map_cons, List.map_map]
    rfl
  have hj : Go.Lib.join ((List.range (1 + n)).map s) [32] = w ++ numsS f n := by
    rw [hs, Go.Lib.join_cons, numsS_eq]
  have hjl : (Go.Lib.join ((List.range (1 + n)).map s) [32]).length ≤ 10000 := by
    rw [hj, List.length_append]; omega
  have hJ : ∀ up, Cs gl n_strings_Join up [.lst none 1 (1 + n) (appF 1 (litF 1 [.str (bytesS w)]) fun i => [.str (bytesS (Go.Lib.itoa (f i)))]), .str (bytesS [32])] (.str (bytesS (w ++ numsS f n))) up := fun up => by
    rw [← hj]
    refine c_Join up (1 + n) _ s [32] (fun i hi => ?_) (by omega) (by omega)
    show (if i < 1 then litF 1 [.str (bytesS w)] i else [.str (bytesS (Go.Lib.itoa (f (i - 1))))]) = [.str (bytesS (if i < 1 then w else Go.Lib.itoa (f (i - 1))))]
    split
    · rename_i h
      have : i = 0 := by omega
      subst this
      rfl
    · rfl
  conv => whnf
  refine .mk _ _ _ _ _ (leL_refl _) (c_mappedS _ n (by omega) f (fun i => bytesS (Go.Lib.itoa (f i))) n_strconv_Itoa (fun up i hi => c_Itoa up hg (f i) (hf i hi))) rfl ?_
  conv => whnf
  split
  rotate_left
  · rename_i h
    have h' : decide (1 + n ≤ 1073741824) = false := h
    simp at h' <;> omega
  conv => whnf
  refine .mk _ _ _ _ _ (leL_refl _) (hJ _) rfl ?_
  conv => whnf
  split
  · conv => whnf
    refine ⟨?_, rfl⟩
    show IV.str (bytesS (w ++ numsS f n) ++ bytesS [10]) = _
    rw [bytesS_append]; rfl
  · rename_i h
    have h : decide ((bytesS (w ++ numsS f n)).size + (bytesS [10]).size ≤ 1099511627776) = false := h
    rw [bytesS_size, bytesS_size, List.length_append] at h
    simp at h; omega
def printR (b : Bl) : IV := bif b.err != 0 then .tup [.str (bytesS []), .int .i64 b.err] else .tup [.str (bytesS b.text), .int .i64 0]
theorem c_Print (up : List Ces) (hg : gl g_internal_strconv_uint64pow10 = powI) (b : Bl) : Cs gl n_rotor_Print up [b.iv] (printR b) up := by
  refine mk h_rotor_Print rfl rfl ?_
  unfold printR
  conv => whnf
  refine .mk _ _ _ _ _ (leL_refl _) (c_CheckBlade _ _ _ _ _ _ _ _ _ _) rfl ?_
  conv => whnf
  split
  · rename_i h
    have h : (b.err != 0) = true := h
    conv => whnf
    refine ⟨?_, rfl⟩
    rw [h]; rfl
  · rename_i h
    have h : (b.err != 0) = false := h
    rw [h, cond_false]
    obtain ⟨hnd, hn1, hn2, ok⟩ := Bl.good (b := b) (f := ⟨1, 1, 0⟩) (by simpa using h) (by decide)
    have ok0 := ok 0 (by omega)
    have hl1 := ok0.n1
    clear h
    let F : Nat → List IV := fun j => [.int .i64 (b.pol j)]
    conv => whnf
    refine .mk (α := {k : Nat // k ≤ b.nl}) (fun k => ⟨[(20, .int .i64 k.1), (19, .int .i64 b.nl), (18, .lst none 1 b.nl fun i => [.int .i64 (b.lf i)]), (5, .lst (some 34) 1 (2 * k.1) F), (1, .ptr 0 1 0)],
      [(1, [.lst none 1 b.nl fun i => [.int .i64 (b.lf i)], .lst none 1 b.nd fun i => [.int .i64 (b.df i)], .lst none 4 b.nr fun i => [.int .i64 (b.r1 i), .int .i64 (b.r2 i), .int .i64 (b.r3 i), .int .i64 (b.r4 i)]])], up⟩) (fun k => b.nl - k.1) ⟨0, Nat.zero_le _⟩ ⟨?_, ?_, rfl, rfl⟩ ?_
    · exact ⟨leV_refl _, leV_refl _, leV_refl _, rfl, leV_refl _, trivial⟩
    · exact ⟨leL_refl _, trivial⟩
    rintro ⟨k, hk⟩
    have hw : w64 ((k : Int) + 1) = ((k + 1 : Nat) : Int) := by rw [w64, wrap_in] <;> omega
    conv => whnf
    split
    · rename_i h
      have h : decide ((k : Int) < b.nl) = true := h
      have hlt : k < b.nl := by simpa using h
      conv => whnf
      split
      rotate_left
      · rename_i h
        have h' : decide ((k : Int) < b.nl) = false := h
        simp at h' <;> omega
      conv => whnf
      split
      rotate_left
      · rename_i h
        have h' : decide ((k : Int) < b.nd) = false := h
        simp at h' <;> omega
      conv => whnf
      split
      rotate_left
      · rename_i h
        have h' : decide (2 * k + 2 ≤ 1073741824) = false := h
        simp at h' <;> omega
      conv => whnf
      refine ⟨⟨k + 1, hlt⟩, ⟨⟨leV_int hw, leV_refl _, leV_refl _, ⟨.inr rfl, rfl, rfl, fun j hj => ?_⟩, leV_refl _, trivial⟩, ⟨leL_refl _, trivial⟩, rfl, rfl⟩, (by show b.nl - (k + 1) < b.nl - k; omega)⟩
      have hj : j < 2 * k + 2 := hj
      show (if j < 2 * k then F j else litF 1 [.int .i64 (b.lf k), .int .i64 (b.df k)] (j - 2 * k)) = F j
      split
      · rfl
      · rcases (show j = 2 * k ∨ j = 2 * k + 1 by omega) with e | e
        · subst e
          rw [Nat.sub_self]
          show [IV.int .i64 (b.lf k)] = [.int .i64 (b.pol (2 * k))]
          unfold Bl.pol
          rw [if_pos (by omega), show 2 * k / 2 = k by omega]
        · subst e
          rw [show 2 * k + 1 - 2 * k = 1 by omega]
          show [IV.int .i64 (b.df k)] = [.int .i64 (b.pol (2 * k + 1))]
          unfold Bl.pol
          rw [if_neg (by omega), show (2 * k + 1) / 2 = k by omega]
    · rename_i h
      have h : decide ((k : Int) < b.nl) = false := h
      have : k = b.nl := by simp at h; omega
      subst this
      have hpol : ∀ i, i < 2 * b.nl → i64 (b.pol i) := fun i hi => by
        have h1 := ok0.lf0 (i / 2) (by omega)
        have h2 := ok0.df0 (i / 2) (by omega)
        unfold Bl.pol i64
        split <;> omega
      have hpl := numsS_len (2 * b.nl) hpol
      conv => whnf
      refine .mk _ _ _ _ _ (leL_refl _) (c_line _ hg polarW (2 * b.nl) b.pol (by omega) (by decide) hpol) rfl ?_
      conv => whnf
      let R : Nat → List IV := fun i => [.int .i64 (b.r1 i), .int .i64 (b.r2 i), .int .i64 (b.r3 i), .int .i64 (b.r4 i)]
      refine .mk (α := {k : Nat // k ≤ b.nr}) (fun k => ⟨[(41, .int .i64 k.1), (40, .int .i64 b.nr), (39, .lst none 4 b.nr R), (8, .str (bytesS (lineS polarW (2 * b.nl) b.pol ++ ringsS b k.1)))], [], up⟩) (fun k => b.nr - k.1) ⟨0, Nat.zero_le _⟩ ⟨?_, trivial, rfl, rfl⟩ ?_
      · refine ⟨leV_refl _, leV_refl _, leV_refl _, ?_, trivial⟩
        show leV _ (.str (bytesS (lineS polarW (2 * b.nl) b.pol ++ [])))
        rw [List.append_nil]
        exact leV_refl _
      rintro ⟨k, hk⟩
      have hw : w64 ((k : Int) + 1) = ((k + 1 : Nat) : Int) := by rw [w64, wrap_in] <;> omega
      have hrl := ringsS_len k fun i hi j => ring_i64 (ok i (by omega)) j
      have hT : (lineS polarW (2 * b.nl) b.pol ++ ringsS b k).length ≤ 4096 := by
        simp only [List.length_append, lineS, List.length_cons, List.length_nil]
        omega
      conv => whnf
      split
      · rename_i h
        have h : decide ((k : Int) < b.nr) = true := h
        have hlt : k < b.nr := by simpa using h
        have hrk := numsS_len (f := b.ring k) 4 fun i hi => ring_i64 (ok k hlt) i
        have hline : ∀ up, Cs gl n_rotor_line up [.str (bytesS ringW), .lst none 1 4 (litF 1 [.int .i64 (b.r1 k), .int .i64 (b.r2 k), .int .i64 (b.r3 k), .int .i64 (b.r4 k)])] (.str (bytesS (lineS ringW 4 (b.ring k)))) up := fun up => by
          refine Comp.le ?_ (c_line up hg ringW 4 (b.ring k) (by decide) (by decide) fun i hi => ring_i64 (ok k hlt) i)
          refine ⟨leV_refl _, ⟨.inl rfl, rfl, rfl, fun i hi => ?_⟩, trivial⟩
          match i, hi with
          | 0, _ => rfl
          | 1, _ => rfl
          | 2, _ => rfl
          | 3, _ => rfl
        conv => whnf
        split
        rotate_left
        · rename_i h
          have h' : decide ((k : Int) < b.nr) = false := h
          simp at h' <;> omega
        conv => whnf
        refine .mk _ _ _ _ _ (leL_refl _) (hline _) rfl ?_
        conv => whnf
        split
        · conv => whnf
          refine ⟨⟨k + 1, hlt⟩, ⟨⟨leV_int hw, leV_refl _, leV_refl _, ?_, trivial⟩, trivial, rfl, rfl⟩, (by show b.nr - (k + 1) < b.nr - k; omega)⟩
          show leV (.str (bytesS (lineS polarW (2 * b.nl) b.pol ++ ringsS b k) ++ bytesS (lineS ringW 4 (b.ring k)))) _
          rw [bytesS_append, List.append_assoc]
          exact leV_refl _
        · rename_i h
          have h : decide ((bytesS (lineS polarW (2 * b.nl) b.pol ++ ringsS b k)).size + (bytesS (lineS ringW 4 (b.ring k))).size ≤ 1099511627776) = false := h
          rw [bytesS_size, bytesS_size] at h
          have h := of_decide_eq_false h
          simp only [lineS, List.length_append, List.length_cons, List.length_nil] at h hT
          omega
      · rename_i h
        have h : decide ((k : Int) < b.nr) = false := h
        have : k = b.nr := by simp at h; omega
        subst this
        conv => whnf
        split
        · rename_i h
          have h : decide (((bytesS (lineS polarW (2 * b.nl) b.pol ++ ringsS b b.nr)).size : Int) > 4096) = true := h
          rw [bytesS_size] at h
          simp only [decide_eq_true_eq] at h
          omega
        · conv => whnf
          exact ⟨rfl, rfl⟩
end Go.Proofs.YtfoenhiohhmnlaaGreatDoor.Ix

namespace Go.Proofs.YtfoenhiohhmnlaaGreatDoor.Ix
set_option linter.unusedVariables false
theorem comp_of_row {P : Program} {gl : Nat → IV} {g : Nat} {up : List Ces} {args : List IV} {fn : Func} {c : Code} (hf : P.funcs[g]? = some fn) (hb : fn.body = some c) (hn : (fn.name == "runtime.NumGoroutine") = false) (vs : List ByteArray)
    (h : ∀ (vals : Array Value) (w : World) (I : Imm) (X : Nat → Prop) (β : Beta) (σ : Nat → Sig), MemR gl up w I X β σ → args.length = vals.size →
      (∀ (j : Nat) x, args[j]? = some x → V I (under β) noSig x (vals.getD j undef)) → Calls P g vals w fun e w' => ∃ el, e = .returned (.slice (some ⟨w.heap.size, 0, none⟩) vs.length vs.length) ∧ w' = w.alloc (.cells (vs.map Value.string).toArray el)) :
    Comp P gl g up args (.lst none 1 vs.length fun i => [.str (vs.getD i ByteArray.empty)]) up := by
  refine ⟨⟨fn, c, hf, hb, hn⟩, fun vals w I X β σ m hl ha => (h vals w I X β σ m hl ha).mono ?_⟩
  rintro e w' ⟨el, rfl, rfl⟩
  let B := w.heap.size
  have hnew : (w.alloc (.cells (vs.map Value.string).toArray el)).heap[B]? = some (.cells (vs.map Value.string).toArray el (0, 0)) := World.alloc_heap_new w _
  have hIlt : ∀ x v, I x = some v → x.block < B := fun x v hx => hcell_lt (m.im x v hx)
  let I2 : Imm := fun x => if x.block = B then (if x.spot = none then (vs[x.off]?).map Value.string else none) else I x
  have hI : ∀ x v, I x = some v → I2 x = some v := fun x v hx => by
    have := hIlt x v hx
    show (if _ then _ else _) = _
    rw [if_neg (by omega)]; exact hx
  have hX : ∀ b, X b → b < B := m.xb
  let Γ0 : Env := ⟨P, fun _ => Ty.none, gl, 0, fun _ _ _ _ => False, none, none, []⟩
  have m1 : MemR gl up (w.alloc (.cells (vs.map Value.string).toArray el)) I X β σ := MemR.alloc (Γ := Γ0) m _
  have hcell1 : ∀ (j : Nat), (w.alloc (.cells (vs.map Value.string).toArray el)).cell? ⟨B, j, none⟩ = (vs[j]?).map Value.string := fun j => by
    simp [World.cell?, hnew]
  refine ⟨_, I2, noSig, rfl, .data ?_, ⟨fun t g h => (by cases h), fun t t' g g' h => (by cases h)⟩, ⟨fun l d c hc => ?_, m1.inj, m1.keys, fun x v hx => ?_, fun g => (m1.glo g).mono hI, m1.xb, m1.gz⟩, ?_⟩
  · have hd := D.lst (I := I2) 1 vs.length (fun i => [.str (vs.getD i ByteArray.empty)]) B 0 vs.length (fun i _ => .string (vs.getD i ByteArray.empty)) (Nat.le_refl _) (fun i _ => rfl) (fun i j hi hj => by
      have : j = 0 := by omega
      subst this
      show (if _ then _ else _) = _
      rw [if_pos rfl]
      show (if _ then _ else _) = _
      rw [if_pos rfl]
      have e : 0 + i * 1 + 0 = i := by omega
      show (vs[0 + i * 1 + 0]?).map Value.string = _
      rw [e]
      simp [hi]) (fun i j _ _ => rfl) (fun i j x hi hx => by
      cases j with
      | zero => simp at hx; subst hx; exact .str _
      | succ j => simp at hx)
    exact hd
  · obtain ⟨b, arr, el', h1, h2, h3, h4, h5, h6, h7⟩ := m1.cell l d c hc
    have hlt : b < B := by
      obtain ⟨b', arr', el2, k1, k2, _⟩ := m.cell l d c hc
      rw [h1] at k1; cases k1
      exact heap_lt k2
    refine ⟨b, arr, el', h1, h2, h3, h4, fun j x hx => (h5 j x hx).mono hI (fun _ _ _ h => h) (fun _ _ h => h), fun j => ?_, h7⟩
    show (if _ then _ else _) = _
    rw [if_neg (by show ¬ b = B; omega)]
    exact h6 j
  · have hx2 : (if x.block = B then (if x.spot = none then (vs[x.off]?).map Value.string else none) else I x) = some v := hx
    clear hx
    split at hx2
    · rename_i hb'
      split at hx2
      · rename_i hs
        obtain ⟨b, off, sp⟩ := x
        simp only at hb' hs hx2
        subst hb'
        subst hs
        rw [hcell_none, hcell1]; exact hx2
      · cases hx2
    · exact m1.im x v hx2
  · have he := Ext.alloc I X w (.cells (vs.map Value.string).toArray el) m.xb
    refine ⟨he.os, he.tape, he.output, he.size, he.keep, hI, fun x hx => ?_, he.fix⟩
    show (if _ then _ else _) = _
    rw [if_neg (by have := hX _ hx; omega)]
end Go.Proofs.YtfoenhiohhmnlaaGreatDoor.Ix

namespace Go.Proofs.YtfoenhiohhmnlaaGreatDoor.Ix
set_option linter.unusedVariables false
def ibodyL (C : Con) (Γ : Env) (fn : Func) (d : Nat) (c rest c' : List IV) : Prop :=
  match fn.body with
  | none => False
  | some code => iwp C ⟨Γ.P, Γ.T, Γ.gl, fn.ntmps, Γ.vis, none, none, Γ.rw⟩ code (fun e S => match e with
    | .exit _ => False
    | _ => S.ce = [(d, c')] ∧ S.up = [] ∧ look S.tm 0 = .ptr 0 d 0) ⟨params 0 (.ptr 0 d 0 :: rest), [(d, c)], []⟩
section
variable {Γ : Env} {S : St} {a : Act} {w : World} {I : Imm} {X : Nat → Prop} {β : Beta} {σ : Nat → Sig} {K : St → Prop}
theorem oneB_inv {d b l e b' : Nat} (h : oneB d b l e = some b') : l = 0 ∧ e = d ∧ b' = b := by
  unfold oneB at h
  split at h
  · rename_i q; cases h; exact ⟨q.1, q.2, rfl⟩
  · cases h
theorem compL_of_body {C : Con} (hmo : Γ.P.follows .mixedOrders = true) (hT : TOK Γ.P Γ.T) (hC : HCC C Γ.P Γ.gl) {g : Nat} {fn : Func} {code : Code} (hf : Γ.P.funcs[g]? = some fn)
    (hb : fn.body = some code) (hn : (fn.name == "runtime.NumGoroutine") = false) (hres : fn.results = #[]) (hnr : noRange code = true) (hw0 : (wrs code).all (fun t => t != 0) = true) {d : Nat} {c rest c' : List IV}
    (h : ibodyL C Γ fn d c rest c') : CompL Γ.P Γ.gl g d c rest c' := by
  refine ⟨⟨fn, code, hf, hb, hn⟩, fun b vals w I X s hm ho hlen hv0 hargs => ?_⟩
  refine (callsIn_wide (n := 1)).1 (callsIn_of_wp_marks (F := Fw none) hf hb trivial ?_)
  simp only [ibodyL, hb] at h
  let Γ' : Env := ⟨Γ.P, Γ.T, Γ.gl, fn.ntmps, Γ.vis, none, none, Γ.rw⟩
  let X1 : Nat → Prop := fun b => X b ∨ ∃ o, w.heap[b]? = some o ∧ fixed o = true
  have hone0 : oneB d b 0 d = some b := if_pos ⟨rfl, rfl⟩
  have r0 : Rel Γ' ⟨params 0 (.ptr 0 d 0 :: rest), [(d, c)], []⟩ { tmps := vals ++ Array.replicate (fn.ntmps - vals.size) undef, defers := [] } w I X1 (oneB d b) (lvl0 s) := by
    refine ⟨fun i => ?_, ⟨.nil _ _, fun d e => (by cases e)⟩, ?_, ⟨fun l e y hy => ?_, hm.inj, hm.keys, hm.im, hm.glo, fun b hb => ?_, hm.gz⟩, ⟨fun t g h => ?_, ho.inj⟩⟩
    · rw [params_look]
      simp only [Nat.zero_le, if_true, Nat.sub_zero]
      cases hi : (IV.ptr 0 d 0 :: rest)[i]? with
      | none => simp only [List.getD_eq_getElem?_getD, hi, Option.getD_none]; exact .data (.dead _)
      | some x =>
        have hlt : i < vals.size := by rw [← hlen]; exact (List.getElem?_eq_some_iff.1 hi).1
        simp only [List.getD_eq_getElem?_getD, hi, Option.getD_some]
        rw [Array.getD_eq_getD_getElem?, Array.getElem?_append_left hlt, ← Array.getD_eq_getD_getElem?]
        cases i with
        | zero =>
          simp at hi; subst hi
          rw [hv0]
          exact .ptr 0 d 0 b hone0
        | succ i => exact .data (hargs i x (by simpa using hi))
    · simp only [Array.size_append, Array.size_replicate]; show fn.ntmps ≤ _; omega
    · obtain ⟨b', arr, el, h1, h2, h3, h4, h5, h6, h7⟩ := hm.cell l e y (by cases l with | zero => exact hy | succ l => cases l <;> simpa [upC] using hy)
      refine ⟨b', arr, el, h1, h2, h3, h4, h5, h6, fun hx => ?_⟩
      rcases hx with hx | ⟨o, ho, hf⟩
      · exact h7 hx
      · rw [h2] at ho; cases ho; cases hf
    · rcases hb with hb | ⟨o, ho, _⟩
      · exact hm.xb b hb
      · exact heap_lt ho
    · obtain ⟨cur, k1, k2, k3, k4, k5, k6, k7⟩ := ho.row t g h
      refine ⟨cur, k1, k2, k3, k4, k5, fun hx => ?_, k7⟩
      rcases hx with hx | ⟨o, ho, hf⟩
      · exact k6 hx
      · rw [k1] at ho; cases ho; cases hf
  have hw := iwp_sound_r (X := X1) (Γ := Γ') hmo hT ⟨hC, rfl⟩ none 1 code _ _ _ w I (oneB d b) (lvl0 s) (fun t => t != 0) hnr (fun t ht => List.all_eq_true.1 hw0 t ht) h r0
  have fin : ∀ a' w', AftG Γ' (Wn fun t => t != 0) (fun S => S.ce = [(d, c')] ∧ S.up = [] ∧ look S.tm 0 = .ptr 0 d 0) I X1 w (oneB d b) (lvl0 s) { tmps := vals ++ Array.replicate (fn.ntmps - vals.size) undef, defers := [] } a' w' →
      LeavesInM (Fw none) 1 Γ.P fn a'.tmps (fun e w' => ∃ I' s', e = .returned (.tuple #[]) ∧ MemR Γ.gl [[(d, c')]] w' I' X (oneB d b) (lvl0 s') ∧ OwnR w' I' X (oneB d b) s' ∧ Ext I X w I' w') a'.defers .returning w' := by
    rintro a' w' ⟨S', I', X', β', σ', ⟨hk1, hk2, hk3⟩, r, _, ⟨he, hx'⟩, hab, hsame⟩
    have r := r.sub hx'
    obtain ⟨Ds, d1, d2, d3⟩ := r.df.m
    rw [d1]
    refine leaves_marks rfl (Γ := Γ') (S := S') (a := a') (I := I') (X := X1) (X0 := X) (w0 := w) (I0 := I) (β := β') (σ := σ') (fun b o h1 h2 => .inr ⟨o, h1, h2⟩) (fun b h => .inl h) ?_ Ds w' d2 d3 (by rw [← d1]; exact r) (he.sub fun b h => .inl h)
    intro w2 r2 he2
    have hlt : 0 < vals.size := by omega
    have ht0 : a'.tmps.getD 0 undef = ptrV b := by
      rw [hsame 0 rfl, Array.getD_eq_getD_getElem?, Array.getElem?_append_left hlt, ← Array.getD_eq_getD_getElem?]; exact hv0
    have hb0 : β' 0 d = some b := by
      have := r2.tm 0
      rw [hk3] at this
      obtain ⟨b2, e1, e2⟩ := this.ptr_inv
      have e1 : a'.tmps.getD 0 undef = _ := e1
      rw [ht0] at e1
      cases e1; exact e2
    have hβ : β' = oneB d b := by
      funext l e
      cases l with
      | succ l =>
        rw [hab.1 l]
      | zero =>
        by_cases hed : e = d
        · subst hed; rw [hb0, hone0]
        · have h1 : oneB d b 0 e = none := if_neg (by rintro ⟨_, q⟩; exact hed q)
          rw [h1]
          cases h2 : β' 0 e with
          | none => rfl
          | some b2 =>
            obtain ⟨y, hy⟩ := r2.mem.keys 0 e b2 h2
            simp only [upC, hk1, lookC_cons, lookC] at hy
            rw [if_neg (fun q => hed q.symm)] at hy
            cases hy
    subst hβ
    have hσ : σ' = lvl0 (σ' 0) := by
      funext l
      cases l with
      | zero => rfl
      | succ l => rw [hab.2 l]; rfl
    refine ⟨.tuple #[], ?_, I', σ' 0, rfl, ?_, ?_, ⟨he2.os, he2.tape, he2.output, he2.size, he2.keep, he2.imm, he2.new, he2.fix⟩⟩
    · simp [results_eq, hres]
    · have hm2 := r2.mem
      rw [hk1, hk2, hσ] at hm2
      refine ⟨fun l e y hy => ?_, hm2.inj, fun l e b2 hb2 => ?_, hm2.im, hm2.glo, fun b h => hm2.xb b (.inl h), hm2.gz⟩
      · obtain ⟨b2, arr, el, q1, q2, q3, q4, q5, q6, q7⟩ := hm2.cell l e y (by cases l with | zero => exact hy | succ l => cases l <;> simpa [upC] using hy)
        exact ⟨b2, arr, el, q1, q2, q3, q4, q5, q6, fun h => q7 (.inl h)⟩
      · obtain ⟨rfl, rfl, rfl⟩ := oneB_inv hb2
        exact ⟨c', by simp [upC, lookC_cons]⟩
    · refine ⟨fun t g h => ?_, r2.own.inj⟩
      obtain ⟨cur, q1, q2, q3, q4, q5, q6, q7⟩ := r2.own.row t g h
      exact ⟨cur, q1, q2, q3, q4, q5, fun hx => q6 (.inl hx), q7⟩
  refine wpIn_mono hw fun e a' w' h' => ?_
  cases e with
  | normal => exact fin a' w' h'
  | ret => exact fin a' w' h'
  | exit id => obtain ⟨S', I', X', β', σ', hk, _⟩ := h'; exact hk.elim
  | goto l => exact h'.elim
  | panic ch => exact h'.elim
  | outgrown => exact h'.elim
end
end Go.Proofs.YtfoenhiohhmnlaaGreatDoor.Ix
