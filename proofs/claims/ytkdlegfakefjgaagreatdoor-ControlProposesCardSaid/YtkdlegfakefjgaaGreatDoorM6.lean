/- YtkdlegfakefjgaaGreatDoorM6 -/
import Derived.Test.YtkdlegfakefjgaaGreatDoorM5
import Derived.Test.YtkdlegfakefjgaaGreatDoorProg
import Derived.Lib.Strings
namespace Go.Proofs.YtkdlegfakefjgaaGreatDoor.Ix
open Go.Proofs
def T (t : Nat) : Ty := match Nat.blt t 262 with
 | false => Ty.none
 | true => (match Nat.ble 132 t with
 | true => (match Nat.ble 197 t with
 | true => (match Nat.ble 226 t with
 | true => (match Nat.ble 242 t with
 | true => (match Nat.ble 254 t with
 | true => (match Nat.ble 258 t with
 | true => (match Nat.ble 260 t with
 | true => (match Nat.ble 261 t with
 | true => (match Nat.beq t 261 with | true => ⟨11, 48, true, [.int .u64 0, .int .u64 0, .int .u32 0, .int .u8 0, .int .u8 0, .int .u8 0, .int .u8 0, .lit .nilFunc, .lit (.pointer none), .int .i32 0, .int .i32 0], [], .struct [(0, 1, false), (1, 1, false), (2, 1, false), (3, 1, false), (4, 1, false), (5, 1, false), (6, 1, false), (7, 1, false), (8, 1, false), (9, 1, false), (10, 1, false)]⟩ | false => Ty.none)
 | false => (match Nat.beq t 260 with | true => ⟨11, 48, true, [.int .u64 0, .int .u64 0, .int .u32 0, .int .u8 0, .int .u8 0, .int .u8 0, .int .u8 0, .lit .nilFunc, .lit (.pointer none), .int .i32 0, .int .i32 0], [], .struct [(0, 1, false), (1, 1, false), (2, 1, false), (3, 1, false), (4, 1, false), (5, 1, false), (6, 1, false), (7, 1, false), (8, 1, false), (9, 1, false), (10, 1, false)]⟩ | false => Ty.none))
 | false => (match Nat.ble 259 t with
 | true => (match Nat.beq t 259 with | true => ⟨1, 4, false, [.int .i32 0], [], .other⟩ | false => Ty.none)
 | false => (match Nat.beq t 258 with | true => ⟨1, 4, false, [.int .i32 0], [], .other⟩ | false => Ty.none)))
 | false => (match Nat.ble 256 t with
 | true => (match Nat.ble 257 t with
 | true => (match Nat.beq t 257 with | true => ⟨1, 8, false, [.lit .nilFunc], [], .other⟩ | false => Ty.none)
 | false => (match Nat.beq t 256 with | true => ⟨1, 1, false, [.int .u8 0], [], .other⟩ | false => Ty.none))
 | false => (match Nat.ble 255 t with
 | true => (match Nat.beq t 255 with | true => ⟨1, 1, false, [.int .u8 0], [], .other⟩ | false => Ty.none)
 | false => (match Nat.beq t 254 with | true => ⟨1, 8, false, [.lit .nilFunc], [], .other⟩ | false => Ty.none))))
 | false => (match Nat.ble 246 t with
 | true => (match Nat.ble 249 t with
 | true => (match Nat.ble 250 t with
 | true => (match Nat.beq t 250 with | true => ⟨4, 40, true, [.lit (.pointer none), .lit (.pointer none), .lit (.pointer none), .str ByteArray.empty], [], .struct [(0, 1, false), (1, 1, false), (2, 1, false), (3, 1, false)]⟩ | false => Ty.none)
 | false => (match Nat.beq t 249 with | true => ⟨4, 40, true, [.lit (.pointer none), .lit (.pointer none), .lit (.pointer none), .str ByteArray.empty], [], .struct [(0, 1, false), (1, 1, false), (2, 1, false), (3, 1, false)]⟩ | false => Ty.none))
 | false => (match Nat.ble 248 t with
 | true => (match Nat.beq t 248 with | true => ⟨1, 8, false, [.lit .nilFunc], [], .other⟩ | false => Ty.none)
 | false => (match Nat.beq t 246 with | true => ⟨32, 32, true, [.int .u8 0, .int .u8 0, .int .u8 0, .int .u8 0, .int .u8 0, .int .u8 0, .int .u8 0, .int .u8 0, .int .u8 0, .int .u8 0, .int .u8 0, .int .u8 0, .int .u8 0, .int .u8 0, .int .u8 0, .int .u8 0, .int .u8 0, .int .u8 0, .int .u8 0, .int .u8 0, .int .u8 0, .int .u8 0, .int .u8 0, .int .u8 0, .int .u8 0, .int .u8 0, .int .u8 0, .int .u8 0, .int .u8 0, .int .u8 0, .int .u8 0, .int .u8 0], [.int, .int, .int, .int, .int, .int, .int, .int, .int, .int, .int, .int, .int, .int, .int, .int, .int, .int, .int, .int, .int, .int, .int, .int, .int, .int, .int, .int, .int, .int, .int, .int], .array 16 245⟩ | false => Ty.none)))
 | false => (match Nat.ble 244 t with
 | true => (match Nat.ble 245 t with
 | true => (match Nat.beq t 245 with | true => ⟨2, 2, true, [.int .u8 0, .int .u8 0], [.int, .int], .struct [(0, 1, false), (1, 1, false)]⟩ | false => Ty.none)
 | false => (match Nat.beq t 244 with | true => ⟨2, 2, true, [.int .u8 0, .int .u8 0], [.int, .int], .struct [(0, 1, false), (1, 1, false)]⟩ | false => Ty.none))
 | false => (match Nat.beq t 242 with | true => ⟨64, 64, true, [.int .u8 0, .int .u8 0, .int .u8 0, .int .u8 0, .int .u8 0, .int .u8 0, .int .u8 0, .int .u8 0, .int .u8 0, .int .u8 0, .int .u8 0, .int .u8 0, .int .u8 0, .int .u8 0, .int .u8 0, .int .u8 0, .int .u8 0, .int .u8 0, .int .u8 0, .int .u8 0, .int .u8 0, .int .u8 0, .int .u8 0, .int .u8 0, .int .u8 0, .int .u8 0, .int .u8 0, .int .u8 0, .int .u8 0, .int .u8 0, .int .u8 0, .int .u8 0, .int .u8 0, .int .u8 0, .int .u8 0, .int .u8 0, .int .u8 0, .int .u8 0, .int .u8 0, .int .u8 0, .int .u8 0, .int .u8 0, .int .u8 0, .int .u8 0, .int .u8 0, .int .u8 0, .int .u8 0, .int .u8 0, .int .u8 0, .int .u8 0, .int .u8 0, .int .u8 0, .int .u8 0, .int .u8 0, .int .u8 0, .int .u8 0, .int .u8 0, .int .u8 0, .int .u8 0, .int .u8 0, .int .u8 0, .int .u8 0, .int .u8 0, .int .u8 0], [.int, .int, .int, .int, .int, .int, .int, .int, .int, .int, .int, .int, .int, .int, .int, .int, .int, .int, .int, .int, .int, .int, .int, .int, .int, .int, .int, .int, .int, .int, .int, .int, .int, .int, .int, .int, .int, .int, .int, .int, .int, .int, .int, .int, .int, .int, .int, .int, .int, .int, .int, .int, .int, .int, .int, .int, .int, .int, .int, .int, .int, .int, .int, .int], .array 64 5⟩ | false => Ty.none))))
 | false => (match Nat.ble 234 t with
 | true => (match Nat.ble 237 t with
 | true => (match Nat.ble 240 t with
 | true => (match Nat.ble 241 t with
 | true => (match Nat.beq t 241 with | true => ⟨32, 32, true, [.int .u8 0, .int .u8 0, .int .u8 0, .int .u8 0, .int .u8 0, .int .u8 0, .int .u8 0, .int .u8 0, .int .u8 0, .int .u8 0, .int .u8 0, .int .u8 0, .int .u8 0, .int .u8 0, .int .u8 0, .int .u8 0, .int .u8 0, .int .u8 0, .int .u8 0, .int .u8 0, .int .u8 0, .int .u8 0, .int .u8 0, .int .u8 0, .int .u8 0, .int .u8 0, .int .u8 0, .int .u8 0, .int .u8 0, .int .u8 0, .int .u8 0, .int .u8 0], [.int, .int, .int, .int, .int, .int, .int, .int, .int, .int, .int, .int, .int, .int, .int, .int, .int, .int, .int, .int, .int, .int, .int, .int, .int, .int, .int, .int, .int, .int, .int, .int], .array 32 5⟩ | false => Ty.none)
 | false => (match Nat.beq t 240 with | true => ⟨1, 8, false, [.lit .nilFunc], [], .other⟩ | false => Ty.none))
 | false => (match Nat.ble 239 t with
 | true => (match Nat.beq t 239 with | true => ⟨1, 8, false, [.lit .nilFunc], [], .other⟩ | false => Ty.none)
 | false => (match Nat.beq t 237 with | true => ⟨1, 8, false, [.lit .nilFunc], [], .other⟩ | false => Ty.none)))
 | false => (match Nat.ble 235 t with
 | true => (match Nat.ble 236 t with
 | true => (match Nat.beq t 236 with | true => ⟨1, 8, false, [.lit .nilFunc], [], .other⟩ | false => Ty.none)
 | false => (match Nat.beq t 235 with | true => ⟨65, 65, true, [.int .u8 0, .int .u8 0, .int .u8 0, .int .u8 0, .int .u8 0, .int .u8 0, .int .u8 0, .int .u8 0, .int .u8 0, .int .u8 0, .int .u8 0, .int .u8 0, .int .u8 0, .int .u8 0, .int .u8 0, .int .u8 0, .int .u8 0, .int .u8 0, .int .u8 0, .int .u8 0, .int .u8 0, .int .u8 0, .int .u8 0, .int .u8 0, .int .u8 0, .int .u8 0, .int .u8 0, .int .u8 0, .int .u8 0, .int .u8 0, .int .u8 0, .int .u8 0, .int .u8 0, .int .u8 0, .int .u8 0, .int .u8 0, .int .u8 0, .int .u8 0, .int .u8 0, .int .u8 0, .int .u8 0, .int .u8 0, .int .u8 0, .int .u8 0, .int .u8 0, .int .u8 0, .int .u8 0, .int .u8 0, .int .u8 0, .int .u8 0, .int .u8 0, .int .u8 0, .int .u8 0, .int .u8 0, .int .u8 0, .int .u8 0, .int .u8 0, .int .u8 0, .int .u8 0, .int .u8 0, .int .u8 0, .int .u8 0, .int .u8 0, .int .u8 0, .int .u8 0], [.int, .int, .int, .int, .int, .int, .int, .int, .int, .int, .int, .int, .int, .int, .int, .int, .int, .int, .int, .int, .int, .int, .int, .int, .int, .int, .int, .int, .int, .int, .int, .int, .int, .int, .int, .int, .int, .int, .int, .int, .int, .int, .int, .int, .int, .int, .int, .int, .int, .int, .int, .int, .int, .int, .int, .int, .int, .int, .int, .int, .int, .int, .int, .int, .int], .array 65 5⟩ | false => Ty.none))
 | false => (match Nat.beq t 234 with | true => ⟨1, 4, false, [.int .u32 0], [], .other⟩ | false => Ty.none)))
 | false => (match Nat.ble 230 t with
 | true => (match Nat.ble 232 t with
 | true => (match Nat.ble 233 t with
 | true => (match Nat.beq t 233 with | true => ⟨20, 160, true, [.int .u64 0, .int .u64 0, .int .u64 0, .int .u64 0, .int .u64 0, .int .u64 0, .int .u64 0, .int .u64 0, .int .u64 0, .int .u64 0, .int .u64 0, .int .u64 0, .int .u64 0, .int .u64 0, .int .u64 0, .int .u64 0, .int .u64 0, .int .u64 0, .int .u64 0, .int .u64 0], [.int, .int, .int, .int, .int, .int, .int, .int, .int, .int, .int, .int, .int, .int, .int, .int, .int, .int, .int, .int], .array 20 224⟩ | false => Ty.none)
 | false => (match Nat.beq t 232 with | true => ⟨1, 8, false, [.lit .nilFunc], [], .other⟩ | false => Ty.none))
 | false => (match Nat.ble 231 t with
 | true => (match Nat.beq t 231 with | true => ⟨1, 8, false, [.lit .nilFunc], [], .other⟩ | false => Ty.none)
 | false => (match Nat.beq t 230 with | true => ⟨1, 8, false, [.lit .nilFunc], [], .other⟩ | false => Ty.none)))
 | false => (match Nat.ble 228 t with
 | true => (match Nat.ble 229 t with
 | true => (match Nat.beq t 229 with | true => ⟨1, 8, false, [.lit .nilFunc], [], .other⟩ | false => Ty.none)
 | false => (match Nat.beq t 228 with | true => ⟨1, 8, false, [.lit .nilFunc], [], .other⟩ | false => Ty.none))
 | false => (match Nat.beq t 226 with | true => ⟨1, 8, false, [.lit .nilFunc], [], .other⟩ | false => Ty.none)))))
 | false => (match Nat.ble 211 t with
 | true => (match Nat.ble 218 t with
 | true => (match Nat.ble 222 t with
 | true => (match Nat.ble 224 t with
 | true => (match Nat.ble 225 t with
 | true => (match Nat.beq t 225 with | true => ⟨1, 8, false, [.lit .nilFunc], [], .other⟩ | false => Ty.none)
 | false => (match Nat.beq t 224 with | true => ⟨1, 8, false, [.int .u64 0], [], .other⟩ | false => Ty.none))
 | false => (match Nat.ble 223 t with
 | true => (match Nat.beq t 223 with | true => ⟨24, 24, true, [.int .u8 0, .int .u8 0, .int .u8 0, .int .u8 0, .int .u8 0, .int .u8 0, .int .u8 0, .int .u8 0, .int .u8 0, .int .u8 0, .int .u8 0, .int .u8 0, .int .u8 0, .int .u8 0, .int .u8 0, .int .u8 0, .int .u8 0, .int .u8 0, .int .u8 0, .int .u8 0, .int .u8 0, .int .u8 0, .int .u8 0, .int .u8 0], [.int, .int, .int, .int, .int, .int, .int, .int, .int, .int, .int, .int, .int, .int, .int, .int, .int, .int, .int, .int, .int, .int, .int, .int], .array 24 5⟩ | false => Ty.none)
 | false => (match Nat.beq t 222 with | true => ⟨1, 8, false, [.lit .nilFunc], [], .other⟩ | false => Ty.none)))
 | false => (match Nat.ble 220 t with
 | true => (match Nat.ble 221 t with
 | true => (match Nat.beq t 221 with | true => ⟨1, 8, false, [.lit .nilFunc], [], .other⟩ | false => Ty.none)
 | false => (match Nat.beq t 220 with | true => ⟨1, 8, false, [.lit .nilFunc], [], .other⟩ | false => Ty.none))
 | false => (match Nat.ble 219 t with
 | true => (match Nat.beq t 219 with | true => ⟨1, 8, false, [.lit (.pointer none)], [], .other⟩ | false => Ty.none)
 | false => (match Nat.beq t 218 with | true => ⟨1, 8, false, [.lit .nilFunc], [], .other⟩ | false => Ty.none))))
 | false => (match Nat.ble 214 t with
 | true => (match Nat.ble 216 t with
 | true => (match Nat.ble 217 t with
 | true => (match Nat.beq t 217 with | true => ⟨1, 8, false, [.lit .nilFunc], [], .other⟩ | false => Ty.none)
 | false => (match Nat.beq t 216 with | true => ⟨1, 8, false, [.lit .nilFunc], [], .other⟩ | false => Ty.none))
 | false => (match Nat.ble 215 t with
 | true => (match Nat.beq t 215 with | true => ⟨1, 8, false, [.lit .nilFunc], [], .other⟩ | false => Ty.none)
 | false => (match Nat.beq t 214 with | true => ⟨1, 8, false, [.lit .nilFunc], [], .other⟩ | false => Ty.none)))
 | false => (match Nat.ble 212 t with
 | true => (match Nat.ble 213 t with
 | true => (match Nat.beq t 213 with | true => ⟨1, 8, false, [.int .u64 0], [], .other⟩ | false => Ty.none)
 | false => (match Nat.beq t 212 with | true => ⟨3, 24, true, [.lit (.pointer none), .lit (.pointer none), .lit (.pointer none)], [], .array 3 211⟩ | false => Ty.none))
 | false => (match Nat.beq t 211 with | true => ⟨1, 8, false, [.lit (.pointer none)], [], .other⟩ | false => Ty.none))))
 | false => (match Nat.ble 204 t with
 | true => (match Nat.ble 207 t with
 | true => (match Nat.ble 209 t with
 | true => (match Nat.ble 210 t with
 | true => (match Nat.beq t 210 with | true => ⟨1, 8, false, [.lit .nilFunc], [], .other⟩ | false => Ty.none)
 | false => (match Nat.beq t 209 with | true => ⟨1, 8, false, [.lit .nilFunc], [], .other⟩ | false => Ty.none))
 | false => (match Nat.ble 208 t with
 | true => (match Nat.beq t 208 with | true => ⟨1, 8, false, [.lit .nilFunc], [], .other⟩ | false => Ty.none)
 | false => (match Nat.beq t 207 with | true => ⟨1, 8, false, [.lit .nilFunc], [], .other⟩ | false => Ty.none)))
 | false => (match Nat.ble 205 t with
 | true => (match Nat.ble 206 t with
 | true => (match Nat.beq t 206 with | true => ⟨1, 8, false, [.lit (.pointer none)], [], .other⟩ | false => Ty.none)
 | false => (match Nat.beq t 205 with | true => ⟨1, 8, false, [.lit .nilFunc], [], .other⟩ | false => Ty.none))
 | false => (match Nat.beq t 204 with | true => ⟨1, 8, false, [.lit .nilFunc], [], .other⟩ | false => Ty.none)))
 | false => (match Nat.ble 200 t with
 | true => (match Nat.ble 202 t with
 | true => (match Nat.ble 203 t with
 | true => (match Nat.beq t 203 with | true => ⟨1, 8, false, [.lit .nilFunc], [], .other⟩ | false => Ty.none)
 | false => (match Nat.beq t 202 with | true => ⟨1, 8, false, [.lit .nilFunc], [], .other⟩ | false => Ty.none))
 | false => (match Nat.ble 201 t with
 | true => (match Nat.beq t 201 with | true => ⟨1, 8, false, [.lit .nilFunc], [], .other⟩ | false => Ty.none)
 | false => (match Nat.beq t 200 with | true => ⟨1, 8, false, [.lit .nilFunc], [], .other⟩ | false => Ty.none)))
 | false => (match Nat.ble 198 t with
 | true => (match Nat.ble 199 t with
 | true => (match Nat.beq t 199 with | true => ⟨1, 8, false, [.lit .nilFunc], [], .other⟩ | false => Ty.none)
 | false => (match Nat.beq t 198 with | true => ⟨21, 280, true, [.str ByteArray.empty, .str ByteArray.empty, .lit .nilFunc, .str ByteArray.empty, .str ByteArray.empty, .lit .nilFunc, .str ByteArray.empty, .str ByteArray.empty, .lit .nilFunc, .str ByteArray.empty, .str ByteArray.empty, .lit .nilFunc, .str ByteArray.empty, .str ByteArray.empty, .lit .nilFunc, .str ByteArray.empty, .str ByteArray.empty, .lit .nilFunc, .str ByteArray.empty, .str ByteArray.empty, .lit .nilFunc], [], .array 7 197⟩ | false => Ty.none))
 | false => (match Nat.beq t 197 with | true => ⟨3, 40, true, [.str ByteArray.empty, .str ByteArray.empty, .lit .nilFunc], [], .struct [(0, 2, true), (2, 1, false)]⟩ | false => Ty.none))))))
 | false => (match Nat.ble 164 t with
 | true => (match Nat.ble 179 t with
 | true => (match Nat.ble 189 t with
 | true => (match Nat.ble 193 t with
 | true => (match Nat.ble 195 t with
 | true => (match Nat.ble 196 t with
 | true => (match Nat.beq t 196 with | true => ⟨3, 40, true, [.str ByteArray.empty, .str ByteArray.empty, .lit .nilFunc], [], .struct [(0, 2, true), (2, 1, false)]⟩ | false => Ty.none)
 | false => (match Nat.beq t 195 with | true => ⟨1, 8, false, [.lit .nilFunc], [], .other⟩ | false => Ty.none))
 | false => (match Nat.ble 194 t with
 | true => (match Nat.beq t 194 with | true => ⟨2, 32, true, [.str ByteArray.empty, .str ByteArray.empty], [.str, .str], .array 2 9⟩ | false => Ty.none)
 | false => (match Nat.beq t 193 with | true => ⟨1, 8, false, [.lit .nilFunc], [], .other⟩ | false => Ty.none)))
 | false => (match Nat.ble 191 t with
 | true => (match Nat.ble 192 t with
 | true => (match Nat.beq t 192 with | true => ⟨1, 8, false, [.lit .nilFunc], [], .other⟩ | false => Ty.none)
 | false => (match Nat.beq t 191 with | true => ⟨1, 8, false, [.lit .nilFunc], [], .other⟩ | false => Ty.none))
 | false => (match Nat.ble 190 t with
 | true => (match Nat.beq t 190 with | true => ⟨1, 8, false, [.lit .nilFunc], [], .other⟩ | false => Ty.none)
 | false => (match Nat.beq t 189 with | true => ⟨1, 8, false, [.lit .nilFunc], [], .other⟩ | false => Ty.none))))
 | false => (match Nat.ble 184 t with
 | true => (match Nat.ble 187 t with
 | true => (match Nat.ble 188 t with
 | true => (match Nat.beq t 188 with | true => ⟨1, 8, false, [.lit .nilFunc], [], .other⟩ | false => Ty.none)
 | false => (match Nat.beq t 187 with | true => ⟨1, 8, false, [.lit .nilFunc], [], .other⟩ | false => Ty.none))
 | false => (match Nat.ble 186 t with
 | true => (match Nat.beq t 186 with | true => ⟨1, 8, false, [.lit .nilFunc], [], .other⟩ | false => Ty.none)
 | false => (match Nat.beq t 184 with | true => ⟨1, 8, false, [.lit .nilFunc], [], .other⟩ | false => Ty.none)))
 | false => (match Nat.ble 181 t with
 | true => (match Nat.ble 183 t with
 | true => (match Nat.beq t 183 with | true => ⟨1, 8, false, [.lit .nilFunc], [], .other⟩ | false => Ty.none)
 | false => (match Nat.beq t 181 with | true => ⟨1, 8, false, [.lit .nilFunc], [], .other⟩ | false => Ty.none))
 | false => (match Nat.beq t 179 with | true => ⟨1, 8, false, [.lit .nilFunc], [], .other⟩ | false => Ty.none))))
 | false => (match Nat.ble 171 t with
 | true => (match Nat.ble 175 t with
 | true => (match Nat.ble 177 t with
 | true => (match Nat.ble 178 t with
 | true => (match Nat.beq t 178 with | true => ⟨1, 8, false, [.lit .nilFunc], [], .other⟩ | false => Ty.none)
 | false => (match Nat.beq t 177 with | true => ⟨1, 8, false, [.lit .nilFunc], [], .other⟩ | false => Ty.none))
 | false => (match Nat.ble 176 t with
 | true => (match Nat.beq t 176 with | true => ⟨1, 8, false, [.lit .nilFunc], [], .other⟩ | false => Ty.none)
 | false => (match Nat.beq t 175 with | true => ⟨1, 8, false, [.lit .nilFunc], [], .other⟩ | false => Ty.none)))
 | false => (match Nat.ble 172 t with
 | true => (match Nat.ble 174 t with
 | true => (match Nat.beq t 174 with | true => ⟨1, 8, false, [.lit .nilFunc], [], .other⟩ | false => Ty.none)
 | false => (match Nat.beq t 172 with | true => ⟨1, 16, false, [.lit .nilIface], [], .other⟩ | false => Ty.none))
 | false => (match Nat.beq t 171 with | true => ⟨1, 16, false, [.lit .nilIface], [], .other⟩ | false => Ty.none)))
 | false => (match Nat.ble 167 t with
 | true => (match Nat.ble 169 t with
 | true => (match Nat.ble 170 t with
 | true => (match Nat.beq t 170 with | true => ⟨1, 8, false, [.lit .nilFunc], [], .other⟩ | false => Ty.none)
 | false => (match Nat.beq t 169 with | true => ⟨1, 8, false, [.lit .nilFunc], [], .other⟩ | false => Ty.none))
 | false => (match Nat.ble 168 t with
 | true => (match Nat.beq t 168 with | true => ⟨2, 32, true, [.lit (.pointer none), .nilS], [], .struct [(0, 1, false), (1, 1, false)]⟩ | false => Ty.none)
 | false => (match Nat.beq t 167 with | true => ⟨2, 32, true, [.lit (.pointer none), .nilS], [], .struct [(0, 1, false), (1, 1, false)]⟩ | false => Ty.none)))
 | false => (match Nat.ble 165 t with
 | true => (match Nat.ble 166 t with
 | true => (match Nat.beq t 166 with | true => ⟨1, 8, false, [.lit (.pointer none)], [], .other⟩ | false => Ty.none)
 | false => (match Nat.beq t 165 with | true => ⟨1, 8, false, [.lit .nilFunc], [], .other⟩ | false => Ty.none))
 | false => (match Nat.beq t 164 with | true => ⟨1, 8, false, [.lit .nilFunc], [], .other⟩ | false => Ty.none)))))
 | false => (match Nat.ble 147 t with
 | true => (match Nat.ble 155 t with
 | true => (match Nat.ble 160 t with
 | true => (match Nat.ble 162 t with
 | true => (match Nat.ble 163 t with
 | true => (match Nat.beq t 163 with | true => ⟨1, 8, false, [.lit .nilFunc], [], .other⟩ | false => Ty.none)
 | false => (match Nat.beq t 162 with | true => ⟨1, 8, false, [.lit .nilFunc], [], .other⟩ | false => Ty.none))
 | false => (match Nat.ble 161 t with
 | true => (match Nat.beq t 161 with | true => ⟨1, 8, false, [.lit .nilFunc], [], .other⟩ | false => Ty.none)
 | false => (match Nat.beq t 160 with | true => ⟨1, 8, false, [.lit .nilFunc], [], .other⟩ | false => Ty.none)))
 | false => (match Nat.ble 158 t with
 | true => (match Nat.ble 159 t with
 | true => (match Nat.beq t 159 with | true => ⟨1, 8, false, [.lit .nilFunc], [], .other⟩ | false => Ty.none)
 | false => (match Nat.beq t 158 with | true => ⟨1, 24, false, [.nilS], [], .slice 32⟩ | false => Ty.none))
 | false => (match Nat.ble 157 t with
 | true => (match Nat.beq t 157 with | true => ⟨1, 8, false, [.lit (.map none)], [], .map 9 4⟩ | false => Ty.none)
 | false => (match Nat.beq t 155 with | true => ⟨6, 96, true, [.str ByteArray.empty, .str ByteArray.empty, .str ByteArray.empty, .str ByteArray.empty, .str ByteArray.empty, .str ByteArray.empty], [.str, .str, .str, .str, .str, .str], .array 6 9⟩ | false => Ty.none))))
 | false => (match Nat.ble 151 t with
 | true => (match Nat.ble 153 t with
 | true => (match Nat.ble 154 t with
 | true => (match Nat.beq t 154 with | true => ⟨1, 8, false, [.lit .nilFunc], [], .other⟩ | false => Ty.none)
 | false => (match Nat.beq t 153 with | true => ⟨1, 8, false, [.lit .nilFunc], [], .other⟩ | false => Ty.none))
 | false => (match Nat.ble 152 t with
 | true => (match Nat.beq t 152 with | true => ⟨1, 8, false, [.lit .nilFunc], [], .other⟩ | false => Ty.none)
 | false => (match Nat.beq t 151 with | true => ⟨1, 8, false, [.lit .nilFunc], [], .other⟩ | false => Ty.none)))
 | false => (match Nat.ble 148 t with
 | true => (match Nat.ble 150 t with
 | true => (match Nat.beq t 150 with | true => ⟨1, 8, false, [.lit .nilFunc], [], .other⟩ | false => Ty.none)
 | false => (match Nat.beq t 148 with | true => ⟨1, 8, false, [.lit .nilFunc], [], .other⟩ | false => Ty.none))
 | false => (match Nat.beq t 147 with | true => ⟨1, 8, false, [.lit .nilFunc], [], .other⟩ | false => Ty.none))))
 | false => (match Nat.ble 140 t with
 | true => (match Nat.ble 143 t with
 | true => (match Nat.ble 145 t with
 | true => (match Nat.ble 146 t with
 | true => (match Nat.beq t 146 with | true => ⟨1, 8, false, [.lit .nilFunc], [], .other⟩ | false => Ty.none)
 | false => (match Nat.beq t 145 with | true => ⟨1, 8, false, [.lit .nilFunc], [], .other⟩ | false => Ty.none))
 | false => (match Nat.ble 144 t with
 | true => (match Nat.beq t 144 with | true => ⟨1, 8, false, [.lit .nilFunc], [], .other⟩ | false => Ty.none)
 | false => (match Nat.beq t 143 with | true => ⟨1, 8, false, [.lit .nilFunc], [], .other⟩ | false => Ty.none)))
 | false => (match Nat.ble 141 t with
 | true => (match Nat.ble 142 t with
 | true => (match Nat.beq t 142 with | true => ⟨1, 8, false, [.lit .nilFunc], [], .other⟩ | false => Ty.none)
 | false => (match Nat.beq t 141 with | true => ⟨1, 8, false, [.lit .nilFunc], [], .other⟩ | false => Ty.none))
 | false => (match Nat.beq t 140 with | true => ⟨1, 8, false, [.lit .nilFunc], [], .other⟩ | false => Ty.none)))
 | false => (match Nat.ble 135 t with
 | true => (match Nat.ble 138 t with
 | true => (match Nat.ble 139 t with
 | true => (match Nat.beq t 139 with | true => ⟨1, 8, false, [.lit .nilFunc], [], .other⟩ | false => Ty.none)
 | false => (match Nat.beq t 138 with | true => ⟨1, 8, false, [.lit .nilFunc], [], .other⟩ | false => Ty.none))
 | false => (match Nat.ble 137 t with
 | true => (match Nat.beq t 137 with | true => ⟨1, 8, false, [.lit .nilFunc], [], .other⟩ | false => Ty.none)
 | false => (match Nat.beq t 135 with | true => ⟨1, 8, false, [.lit .nilFunc], [], .other⟩ | false => Ty.none)))
 | false => (match Nat.ble 133 t with
 | true => (match Nat.ble 134 t with
 | true => (match Nat.beq t 134 with | true => ⟨1, 8, false, [.lit .nilFunc], [], .other⟩ | false => Ty.none)
 | false => (match Nat.beq t 133 with | true => ⟨1, 8, false, [.lit .nilFunc], [], .other⟩ | false => Ty.none))
 | false => (match Nat.beq t 132 with | true => ⟨2, 16, true, [.int .i64 0, .int .i64 0], [.int, .int], .struct [(0, 1, false), (1, 1, false)]⟩ | false => Ty.none)))))))
 | false => (match Nat.ble 62 t with
 | true => (match Nat.ble 96 t with
 | true => (match Nat.ble 113 t with
 | true => (match Nat.ble 123 t with
 | true => (match Nat.ble 127 t with
 | true => (match Nat.ble 130 t with
 | true => (match Nat.ble 131 t with
 | true => (match Nat.beq t 131 with | true => ⟨2, 16, true, [.int .i64 0, .int .i64 0], [.int, .int], .struct [(0, 1, false), (1, 1, false)]⟩ | false => Ty.none)
 | false => (match Nat.beq t 130 with | true => ⟨1, 8, false, [.lit .nilFunc], [], .other⟩ | false => Ty.none))
 | false => (match Nat.ble 128 t with
 | true => (match Nat.beq t 128 with | true => ⟨1, 24, false, [.nilS], [], .slice 132⟩ | false => Ty.none)
 | false => (match Nat.beq t 127 with | true => ⟨1, 8, false, [.lit .nilFunc], [], .other⟩ | false => Ty.none)))
 | false => (match Nat.ble 125 t with
 | true => (match Nat.ble 126 t with
 | true => (match Nat.beq t 126 with | true => ⟨1, 8, false, [.lit .nilFunc], [], .other⟩ | false => Ty.none)
 | false => (match Nat.beq t 125 with | true => ⟨1, 8, false, [.lit .nilFunc], [], .other⟩ | false => Ty.none))
 | false => (match Nat.ble 124 t with
 | true => (match Nat.beq t 124 with | true => ⟨1, 8, false, [.lit .nilFunc], [], .other⟩ | false => Ty.none)
 | false => (match Nat.beq t 123 with | true => ⟨1, 8, false, [.lit .nilFunc], [], .other⟩ | false => Ty.none))))
 | false => (match Nat.ble 117 t with
 | true => (match Nat.ble 120 t with
 | true => (match Nat.ble 121 t with
 | true => (match Nat.beq t 121 with | true => ⟨1, 8, false, [.lit .nilFunc], [], .other⟩ | false => Ty.none)
 | false => (match Nat.beq t 120 with | true => ⟨1, 8, false, [.lit .nilFunc], [], .other⟩ | false => Ty.none))
 | false => (match Nat.ble 119 t with
 | true => (match Nat.beq t 119 with | true => ⟨1, 8, false, [.lit .nilFunc], [], .other⟩ | false => Ty.none)
 | false => (match Nat.beq t 117 with | true => ⟨1, 8, false, [.lit .nilFunc], [], .other⟩ | false => Ty.none)))
 | false => (match Nat.ble 114 t with
 | true => (match Nat.ble 115 t with
 | true => (match Nat.beq t 115 with | true => ⟨1, 8, false, [.lit .nilFunc], [], .other⟩ | false => Ty.none)
 | false => (match Nat.beq t 114 with | true => ⟨1, 8, false, [.lit .nilFunc], [], .other⟩ | false => Ty.none))
 | false => (match Nat.beq t 113 with | true => ⟨1, 8, false, [.lit .nilFunc], [], .other⟩ | false => Ty.none))))
 | false => (match Nat.ble 105 t with
 | true => (match Nat.ble 109 t with
 | true => (match Nat.ble 111 t with
 | true => (match Nat.ble 112 t with
 | true => (match Nat.beq t 112 with | true => ⟨1, 8, false, [.lit .nilFunc], [], .other⟩ | false => Ty.none)
 | false => (match Nat.beq t 111 with | true => ⟨1, 8, false, [.lit .nilFunc], [], .other⟩ | false => Ty.none))
 | false => (match Nat.ble 110 t with
 | true => (match Nat.beq t 110 with | true => ⟨1, 8, false, [.lit .nilFunc], [], .other⟩ | false => Ty.none)
 | false => (match Nat.beq t 109 with | true => ⟨1, 8, false, [.lit .nilFunc], [], .other⟩ | false => Ty.none)))
 | false => (match Nat.ble 106 t with
 | true => (match Nat.ble 108 t with
 | true => (match Nat.beq t 108 with | true => ⟨1, 8, false, [.lit .nilFunc], [], .other⟩ | false => Ty.none)
 | false => (match Nat.beq t 106 with | true => ⟨1, 8, false, [.lit .nilFunc], [], .other⟩ | false => Ty.none))
 | false => (match Nat.beq t 105 with | true => ⟨1, 8, false, [.lit .nilFunc], [], .other⟩ | false => Ty.none)))
 | false => (match Nat.ble 101 t with
 | true => (match Nat.ble 103 t with
 | true => (match Nat.ble 104 t with
 | true => (match Nat.beq t 104 with | true => ⟨1, 8, false, [.lit .nilFunc], [], .other⟩ | false => Ty.none)
 | false => (match Nat.beq t 103 with | true => ⟨1, 8, false, [.lit .nilFunc], [], .other⟩ | false => Ty.none))
 | false => (match Nat.ble 102 t with
 | true => (match Nat.beq t 102 with | true => ⟨1, 8, false, [.lit .nilFunc], [], .other⟩ | false => Ty.none)
 | false => (match Nat.beq t 101 with | true => ⟨1, 8, false, [.lit .nilFunc], [], .other⟩ | false => Ty.none)))
 | false => (match Nat.ble 98 t with
 | true => (match Nat.ble 99 t with
 | true => (match Nat.beq t 99 with | true => ⟨1, 8, false, [.lit .nilFunc], [], .other⟩ | false => Ty.none)
 | false => (match Nat.beq t 98 with | true => ⟨1, 8, false, [.lit .nilFunc], [], .other⟩ | false => Ty.none))
 | false => (match Nat.beq t 96 with | true => ⟨1, 8, false, [.lit .nilFunc], [], .other⟩ | false => Ty.none)))))
 | false => (match Nat.ble 79 t with
 | true => (match Nat.ble 86 t with
 | true => (match Nat.ble 90 t with
 | true => (match Nat.ble 92 t with
 | true => (match Nat.ble 94 t with
 | true => (match Nat.beq t 94 with | true => ⟨1, 8, false, [.lit .nilFunc], [], .other⟩ | false => Ty.none)
 | false => (match Nat.beq t 92 with | true => ⟨1, 8, false, [.lit .nilFunc], [], .other⟩ | false => Ty.none))
 | false => (match Nat.ble 91 t with
 | true => (match Nat.beq t 91 with | true => ⟨2, 16, true, [.int .i64 0, .int .i64 0], [.int, .int], .array 2 3⟩ | false => Ty.none)
 | false => (match Nat.beq t 90 with | true => ⟨1, 8, false, [.lit .nilFunc], [], .other⟩ | false => Ty.none)))
 | false => (match Nat.ble 88 t with
 | true => (match Nat.ble 89 t with
 | true => (match Nat.beq t 89 with | true => ⟨1, 8, false, [.lit .nilFunc], [], .other⟩ | false => Ty.none)
 | false => (match Nat.beq t 88 with | true => ⟨1, 8, false, [.lit .nilFunc], [], .other⟩ | false => Ty.none))
 | false => (match Nat.ble 87 t with
 | true => (match Nat.beq t 87 with | true => ⟨1, 8, false, [.lit .nilFunc], [], .other⟩ | false => Ty.none)
 | false => (match Nat.beq t 86 with | true => ⟨1, 24, false, [.nilS], [], .slice 9⟩ | false => Ty.none))))
 | false => (match Nat.ble 82 t with
 | true => (match Nat.ble 84 t with
 | true => (match Nat.ble 85 t with
 | true => (match Nat.beq t 85 with | true => ⟨1, 8, false, [.lit .nilFunc], [], .other⟩ | false => Ty.none)
 | false => (match Nat.beq t 84 with | true => ⟨1, 8, false, [.lit .nilFunc], [], .other⟩ | false => Ty.none))
 | false => (match Nat.ble 83 t with
 | true => (match Nat.beq t 83 with | true => ⟨1, 8, false, [.lit .nilFunc], [], .other⟩ | false => Ty.none)
 | false => (match Nat.beq t 82 with | true => ⟨1, 8, false, [.lit .nilFunc], [], .other⟩ | false => Ty.none)))
 | false => (match Nat.ble 80 t with
 | true => (match Nat.ble 81 t with
 | true => (match Nat.beq t 81 with | true => ⟨1, 8, false, [.lit .nilFunc], [], .other⟩ | false => Ty.none)
 | false => (match Nat.beq t 80 with | true => ⟨1, 8, false, [.lit .nilFunc], [], .other⟩ | false => Ty.none))
 | false => (match Nat.beq t 79 with | true => ⟨1, 8, false, [.lit .nilFunc], [], .other⟩ | false => Ty.none))))
 | false => (match Nat.ble 70 t with
 | true => (match Nat.ble 73 t with
 | true => (match Nat.ble 76 t with
 | true => (match Nat.ble 77 t with
 | true => (match Nat.beq t 77 with | true => ⟨1, 8, false, [.lit .nilFunc], [], .other⟩ | false => Ty.none)
 | false => (match Nat.beq t 76 with | true => ⟨1, 8, false, [.lit .nilFunc], [], .other⟩ | false => Ty.none))
 | false => (match Nat.ble 75 t with
 | true => (match Nat.beq t 75 with | true => ⟨1, 8, false, [.lit .nilFunc], [], .other⟩ | false => Ty.none)
 | false => (match Nat.beq t 73 with | true => ⟨1, 8, false, [.lit .nilFunc], [], .other⟩ | false => Ty.none)))
 | false => (match Nat.ble 71 t with
 | true => (match Nat.ble 72 t with
 | true => (match Nat.beq t 72 with | true => ⟨1, 8, false, [.lit .nilFunc], [], .other⟩ | false => Ty.none)
 | false => (match Nat.beq t 71 with | true => ⟨1, 24, false, [.nilS], [], .slice 50⟩ | false => Ty.none))
 | false => (match Nat.beq t 70 with | true => ⟨1, 8, false, [.lit .nilFunc], [], .other⟩ | false => Ty.none)))
 | false => (match Nat.ble 65 t with
 | true => (match Nat.ble 67 t with
 | true => (match Nat.ble 68 t with
 | true => (match Nat.beq t 68 with | true => ⟨1, 8, false, [.lit .nilFunc], [], .other⟩ | false => Ty.none)
 | false => (match Nat.beq t 67 with | true => ⟨1, 8, false, [.lit .nilFunc], [], .other⟩ | false => Ty.none))
 | false => (match Nat.ble 66 t with
 | true => (match Nat.beq t 66 with | true => ⟨3, 56, true, [.nilS, .nilS, .int .u8 0], [], .struct [(0, 1, false), (1, 1, false), (2, 1, false)]⟩ | false => Ty.none)
 | false => (match Nat.beq t 65 with | true => ⟨3, 56, true, [.nilS, .nilS, .int .u8 0], [], .struct [(0, 1, false), (1, 1, false), (2, 1, false)]⟩ | false => Ty.none)))
 | false => (match Nat.ble 63 t with
 | true => (match Nat.ble 64 t with
 | true => (match Nat.beq t 64 with | true => ⟨1, 24, false, [.nilS], [], .slice 4⟩ | false => Ty.none)
 | false => (match Nat.beq t 63 with | true => ⟨1, 24, false, [.nilS], [], .slice 5⟩ | false => Ty.none))
 | false => (match Nat.beq t 62 with | true => ⟨1, 24, false, [.nilS], [], .slice 47⟩ | false => Ty.none))))))
 | false => (match Nat.ble 29 t with
 | true => (match Nat.ble 43 t with
 | true => (match Nat.ble 52 t with
 | true => (match Nat.ble 57 t with
 | true => (match Nat.ble 60 t with
 | true => (match Nat.ble 61 t with
 | true => (match Nat.beq t 61 with | true => ⟨1, 8, false, [.lit .nilFunc], [], .other⟩ | false => Ty.none)
 | false => (match Nat.beq t 60 with | true => ⟨1, 8, false, [.lit .nilFunc], [], .other⟩ | false => Ty.none))
 | false => (match Nat.ble 59 t with
 | true => (match Nat.beq t 59 with | true => ⟨1, 8, false, [.lit .nilFunc], [], .other⟩ | false => Ty.none)
 | false => (match Nat.beq t 57 with | true => ⟨1, 8, false, [.lit .nilFunc], [], .other⟩ | false => Ty.none)))
 | false => (match Nat.ble 55 t with
 | true => (match Nat.ble 56 t with
 | true => (match Nat.beq t 56 with | true => ⟨1, 8, false, [.lit .nilFunc], [], .other⟩ | false => Ty.none)
 | false => (match Nat.beq t 55 with | true => ⟨1, 8, false, [.lit .nilFunc], [], .other⟩ | false => Ty.none))
 | false => (match Nat.ble 54 t with
 | true => (match Nat.beq t 54 with | true => ⟨1, 8, false, [.lit .nilFunc], [], .other⟩ | false => Ty.none)
 | false => (match Nat.beq t 52 with | true => ⟨1, 8, false, [.lit .nilFunc], [], .other⟩ | false => Ty.none))))
 | false => (match Nat.ble 46 t with
 | true => (match Nat.ble 49 t with
 | true => (match Nat.ble 50 t with
 | true => (match Nat.beq t 50 with | true => ⟨5, 48, true, [.str ByteArray.empty, .int .i64 0, .int .i64 0, .int .i64 0, .int .i64 0], [.str, .int, .int, .int, .int], .struct [(0, 1, false), (1, 1, false), (2, 1, false), (3, 1, false), (4, 1, false)]⟩ | false => Ty.none)
 | false => (match Nat.beq t 49 with | true => ⟨1, 8, false, [.lit .nilFunc], [], .other⟩ | false => Ty.none))
 | false => (match Nat.ble 47 t with
 | true => (match Nat.beq t 47 with | true => ⟨5, 48, true, [.str ByteArray.empty, .int .i64 0, .int .i64 0, .int .i64 0, .int .i64 0], [.str, .int, .int, .int, .int], .struct [(0, 1, false), (1, 1, false), (2, 1, false), (3, 1, false), (4, 1, false)]⟩ | false => Ty.none)
 | false => (match Nat.beq t 46 with | true => ⟨5, 48, true, [.str ByteArray.empty, .int .i64 0, .int .i64 0, .int .i64 0, .int .i64 0], [.str, .int, .int, .int, .int], .struct [(0, 1, false), (1, 1, false), (2, 1, false), (3, 1, false), (4, 1, false)]⟩ | false => Ty.none)))
 | false => (match Nat.ble 44 t with
 | true => (match Nat.ble 45 t with
 | true => (match Nat.beq t 45 with | true => ⟨1, 8, false, [.lit .nilFunc], [], .other⟩ | false => Ty.none)
 | false => (match Nat.beq t 44 with | true => ⟨1, 8, false, [.lit .nilFunc], [], .other⟩ | false => Ty.none))
 | false => (match Nat.beq t 43 with | true => ⟨1, 24, false, [.nilS], [], .slice 3⟩ | false => Ty.none))))
 | false => (match Nat.ble 36 t with
 | true => (match Nat.ble 39 t with
 | true => (match Nat.ble 41 t with
 | true => (match Nat.ble 42 t with
 | true => (match Nat.beq t 42 with | true => ⟨1, 8, false, [.lit .nilFunc], [], .other⟩ | false => Ty.none)
 | false => (match Nat.beq t 41 with | true => ⟨1, 8, false, [.lit .nilFunc], [], .other⟩ | false => Ty.none))
 | false => (match Nat.ble 40 t with
 | true => (match Nat.beq t 40 with | true => ⟨1, 8, false, [.lit .nilFunc], [], .other⟩ | false => Ty.none)
 | false => (match Nat.beq t 39 with | true => ⟨1, 8, false, [.lit .nilFunc], [], .other⟩ | false => Ty.none)))
 | false => (match Nat.ble 37 t with
 | true => (match Nat.ble 38 t with
 | true => (match Nat.beq t 38 with | true => ⟨1, 24, false, [.nilS], [], .slice 36⟩ | false => Ty.none)
 | false => (match Nat.beq t 37 with | true => ⟨1, 8, false, [.lit .nilFunc], [], .other⟩ | false => Ty.none))
 | false => (match Nat.beq t 36 with | true => ⟨7, 64, true, [.str ByteArray.empty, .int .i64 0, .int .i64 0, .int .i64 0, .int .i64 0, .int .i64 0, .int .i64 0], [.str, .int, .int, .int, .int, .int, .int], .struct [(0, 1, false), (1, 1, false), (2, 3, true), (5, 1, false), (6, 1, false)]⟩ | false => Ty.none)))
 | false => (match Nat.ble 32 t with
 | true => (match Nat.ble 34 t with
 | true => (match Nat.ble 35 t with
 | true => (match Nat.beq t 35 with | true => ⟨1, 8, false, [.lit .nilFunc], [], .other⟩ | false => Ty.none)
 | false => (match Nat.beq t 34 with | true => ⟨7, 56, true, [.int .i64 0, .int .i64 0, .int .i64 0, .int .i64 0, .int .i64 0, .int .i64 0, .int .i64 0], [.int, .int, .int, .int, .int, .int, .int], .struct [(0, 1, false), (1, 1, false), (2, 1, false), (3, 1, false), (4, 1, false), (5, 1, false), (6, 1, false)]⟩ | false => Ty.none))
 | false => (match Nat.ble 33 t with
 | true => (match Nat.beq t 33 with | true => ⟨1, 8, false, [.lit .nilFunc], [], .other⟩ | false => Ty.none)
 | false => (match Nat.beq t 32 with | true => ⟨1, 8, false, [.int .i64 0], [], .other⟩ | false => Ty.none)))
 | false => (match Nat.ble 30 t with
 | true => (match Nat.ble 31 t with
 | true => (match Nat.beq t 31 with | true => ⟨1, 8, false, [.lit .nilFunc], [], .other⟩ | false => Ty.none)
 | false => (match Nat.beq t 30 with | true => ⟨1, 8, false, [.lit .nilFunc], [], .other⟩ | false => Ty.none))
 | false => (match Nat.beq t 29 with | true => ⟨2, 32, true, [.int .i64 0, .nilS], [], .struct [(0, 1, false), (1, 1, false)]⟩ | false => Ty.none)))))
 | false => (match Nat.ble 15 t with
 | true => (match Nat.ble 22 t with
 | true => (match Nat.ble 25 t with
 | true => (match Nat.ble 27 t with
 | true => (match Nat.ble 28 t with
 | true => (match Nat.beq t 28 with | true => ⟨2, 32, true, [.int .i64 0, .nilS], [], .struct [(0, 1, false), (1, 1, false)]⟩ | false => Ty.none)
 | false => (match Nat.beq t 27 with | true => ⟨1, 24, false, [.nilS], [], .slice 26⟩ | false => Ty.none))
 | false => (match Nat.ble 26 t with
 | true => (match Nat.beq t 26 with | true => ⟨7, 64, true, [.str ByteArray.empty, .int .i64 0, .int .i64 0, .int .i64 0, .int .i64 0, .int .i64 0, .int .i64 0], [.str, .int, .int, .int, .int, .int, .int], .struct [(0, 1, false), (1, 1, false), (2, 3, true), (5, 1, false), (6, 1, false)]⟩ | false => Ty.none)
 | false => (match Nat.beq t 25 with | true => ⟨7, 64, true, [.str ByteArray.empty, .int .i64 0, .int .i64 0, .int .i64 0, .int .i64 0, .int .i64 0, .int .i64 0], [.str, .int, .int, .int, .int, .int, .int], .struct [(0, 1, false), (1, 1, false), (2, 3, true), (5, 1, false), (6, 1, false)]⟩ | false => Ty.none)))
 | false => (match Nat.ble 23 t with
 | true => (match Nat.ble 24 t with
 | true => (match Nat.beq t 24 with | true => ⟨3, 24, true, [.int .i64 0, .int .i64 0, .int .i64 0], [.int, .int, .int], .array 3 3⟩ | false => Ty.none)
 | false => (match Nat.beq t 23 with | true => ⟨7, 56, true, [.int .i64 0, .int .i64 0, .int .i64 0, .int .i64 0, .int .i64 0, .int .i64 0, .int .i64 0], [.int, .int, .int, .int, .int, .int, .int], .struct [(0, 1, false), (1, 1, false), (2, 1, false), (3, 1, false), (4, 1, false), (5, 1, false), (6, 1, false)]⟩ | false => Ty.none))
 | false => (match Nat.beq t 22 with | true => ⟨7, 56, true, [.int .i64 0, .int .i64 0, .int .i64 0, .int .i64 0, .int .i64 0, .int .i64 0, .int .i64 0], [.int, .int, .int, .int, .int, .int, .int], .struct [(0, 1, false), (1, 1, false), (2, 1, false), (3, 1, false), (4, 1, false), (5, 1, false), (6, 1, false)]⟩ | false => Ty.none)))
 | false => (match Nat.ble 18 t with
 | true => (match Nat.ble 20 t with
 | true => (match Nat.ble 21 t with
 | true => (match Nat.beq t 21 with | true => ⟨1, 4, false, [.int .i32 0], [], .other⟩ | false => Ty.none)
 | false => (match Nat.beq t 20 with | true => ⟨1, 16, false, [.lit .nilIface], [], .other⟩ | false => Ty.none))
 | false => (match Nat.ble 19 t with
 | true => (match Nat.beq t 19 with | true => ⟨1, 8, true, [.lit (.pointer none)], [], .struct [(0, 1, false)]⟩ | false => Ty.none)
 | false => (match Nat.beq t 18 with | true => ⟨1, 8, true, [.lit (.pointer none)], [], .struct [(0, 1, false)]⟩ | false => Ty.none)))
 | false => (match Nat.ble 16 t with
 | true => (match Nat.ble 17 t with
 | true => (match Nat.beq t 17 with | true => ⟨1, 8, false, [.lit (.pointer none)], [], .other⟩ | false => Ty.none)
 | false => (match Nat.beq t 16 with | true => ⟨1, 8, false, [.lit (.pointer none)], [], .other⟩ | false => Ty.none))
 | false => (match Nat.beq t 15 with | true => ⟨1, 8, false, [.lit (.pointer none)], [], .other⟩ | false => Ty.none))))
 | false => (match Nat.ble 8 t with
 | true => (match Nat.ble 11 t with
 | true => (match Nat.ble 13 t with
 | true => (match Nat.ble 14 t with
 | true => (match Nat.beq t 14 with | true => ⟨2, 24, true, [.str ByteArray.empty, .int .u64 0], [], .struct [(0, 1, false), (1, 1, false)]⟩ | false => Ty.none)
 | false => (match Nat.beq t 13 with | true => ⟨2, 24, true, [.str ByteArray.empty, .int .u64 0], [], .struct [(0, 1, false), (1, 1, false)]⟩ | false => Ty.none))
 | false => (match Nat.ble 12 t with
 | true => (match Nat.beq t 12 with | true => ⟨1, 8, false, [.int .u64 0], [], .other⟩ | false => Ty.none)
 | false => (match Nat.beq t 11 with | true => ⟨1, 16, false, [.str ByteArray.empty], [], .str⟩ | false => Ty.none)))
 | false => (match Nat.ble 9 t with
 | true => (match Nat.ble 10 t with
 | true => (match Nat.beq t 10 with | true => ⟨1, 16, false, [.str ByteArray.empty], [], .str⟩ | false => Ty.none)
 | false => (match Nat.beq t 9 with | true => ⟨1, 16, false, [.str ByteArray.empty], [], .str⟩ | false => Ty.none))
 | false => (match Nat.beq t 8 with | true => ⟨4, 24, true, [.int .i64 0, .int .i64 0, .bool false, .int .u8 0], [], .struct [(0, 1, false), (1, 1, false), (2, 1, false), (3, 1, false)]⟩ | false => Ty.none)))
 | false => (match Nat.ble 4 t with
 | true => (match Nat.ble 6 t with
 | true => (match Nat.ble 7 t with
 | true => (match Nat.beq t 7 with | true => ⟨4, 24, true, [.int .i64 0, .int .i64 0, .bool false, .int .u8 0], [], .struct [(0, 1, false), (1, 1, false), (2, 1, false), (3, 1, false)]⟩ | false => Ty.none)
 | false => (match Nat.beq t 6 with | true => ⟨1, 1, false, [.int .u8 0], [], .other⟩ | false => Ty.none))
 | false => (match Nat.ble 5 t with
 | true => (match Nat.beq t 5 with | true => ⟨1, 1, false, [.int .u8 0], [], .other⟩ | false => Ty.none)
 | false => (match Nat.beq t 4 with | true => ⟨1, 1, false, [.bool false], [], .other⟩ | false => Ty.none)))
 | false => (match Nat.ble 2 t with
 | true => (match Nat.ble 3 t with
 | true => (match Nat.beq t 3 with | true => ⟨1, 8, false, [.int .i64 0], [], .other⟩ | false => Ty.none)
 | false => (match Nat.beq t 2 with | true => ⟨1, 8, false, [.int .i64 0], [], .other⟩ | false => Ty.none))
 | false => (match Nat.beq t 1 with | true => ⟨1, 8, false, [.lit .nilFunc], [], .other⟩ | false => Ty.none))))))))
noncomputable abbrev prog : Program := Tryz.prog
set_option maxRecDepth 100000 in
theorem tok0 : TOK prog T := tok_of 262 (by kernel_rfl) (fun t h => by unfold T; rw [show Nat.blt t 262 = false from h])
theorem mixed0 : prog.follows .mixedOrders = true := by kernel_rfl
abbrev n_nacellelaw05_ControlProposes : Nat := 11
noncomputable abbrev f_nacellelaw05_ControlProposes : Func := Tryz.f11
theorem h_nacellelaw05_ControlProposes : prog.funcs[n_nacellelaw05_ControlProposes]? = some f_nacellelaw05_ControlProposes := Tryz.func11
abbrev n_nacelleref05_Small : Nat := 12
noncomputable abbrev f_nacelleref05_Small : Func := Tryz.f12
theorem h_nacelleref05_Small : prog.funcs[n_nacelleref05_Small]? = some f_nacelleref05_Small := Tryz.func12
abbrev n_nacellelaw05_awake : Nat := 13
noncomputable abbrev f_nacellelaw05_awake : Func := Tryz.f13
theorem h_nacellelaw05_awake : prog.funcs[n_nacellelaw05_awake]? = some f_nacellelaw05_awake := Tryz.func13
abbrev n_control_CheckStop : Nat := 14
noncomputable abbrev f_control_CheckStop : Func := Tryz.f14
theorem h_control_CheckStop : prog.funcs[n_control_CheckStop]? = some f_control_CheckStop := Tryz.func14
abbrev n_nacellelaw05_machine : Nat := 15
noncomputable abbrev f_nacellelaw05_machine : Func := Tryz.f15
theorem h_nacellelaw05_machine : prog.funcs[n_nacellelaw05_machine]? = some f_nacellelaw05_machine := Tryz.func15
abbrev n_nacelleref01_First : Nat := 18
noncomputable abbrev f_nacelleref01_First : Func := Tryz.f18
theorem h_nacelleref01_First : prog.funcs[n_nacelleref01_First]? = some f_nacelleref01_First := Tryz.func18
abbrev n_control_Allowed : Nat := 22
noncomputable abbrev f_control_Allowed : Func := Tryz.f22
theorem h_control_Allowed : prog.funcs[n_control_Allowed]? = some f_control_Allowed := Tryz.func22
abbrev n_control_Next : Nat := 23
noncomputable abbrev f_control_Next : Func := Tryz.f23
theorem h_control_Next : prog.funcs[n_control_Next]? = some f_control_Next := Tryz.func23
abbrev n_control_Propose : Nat := 24
noncomputable abbrev f_control_Propose : Func := Tryz.f24
theorem h_control_Propose : prog.funcs[n_control_Propose]? = some f_control_Propose := Tryz.func24
abbrev n_control_Replay : Nat := 32
noncomputable abbrev f_control_Replay : Func := Tryz.f32
theorem h_control_Replay : prog.funcs[n_control_Replay]? = some f_control_Replay := Tryz.func32
abbrev n_control_Speeds : Nat := 34
noncomputable abbrev f_control_Speeds : Func := Tryz.f34
theorem h_control_Speeds : prog.funcs[n_control_Speeds]? = some f_control_Speeds := Tryz.func34
abbrev n_control_Energy : Nat := 35
noncomputable abbrev f_control_Energy : Func := Tryz.f35
theorem h_control_Energy : prog.funcs[n_control_Energy]? = some f_control_Energy := Tryz.func35
abbrev n_nacelleref05_CheckMachine : Nat := 36
noncomputable abbrev f_nacelleref05_CheckMachine : Func := Tryz.f36
theorem h_nacelleref05_CheckMachine : prog.funcs[n_nacelleref05_CheckMachine]? = some f_nacelleref05_CheckMachine := Tryz.func36
abbrev n_nacelleref01_SameInts : Nat := 40
noncomputable abbrev f_nacelleref01_SameInts : Func := Tryz.f40
theorem h_nacelleref01_SameInts : prog.funcs[n_nacelleref01_SameInts]? = some f_nacelleref01_SameInts := Tryz.func40
abbrev n_control_CheckMachine : Nat := 46
noncomputable abbrev f_control_CheckMachine : Func := Tryz.f46
theorem h_control_CheckMachine : prog.funcs[n_control_CheckMachine]? = some f_control_CheckMachine := Tryz.func46
abbrev n_control_CheckState : Nat := 47
noncomputable abbrev f_control_CheckState : Func := Tryz.f47
theorem h_control_CheckState : prog.funcs[n_control_CheckState]? = some f_control_CheckState := Tryz.func47
abbrev n_control_CheckAct : Nat := 48
noncomputable abbrev f_control_CheckAct : Func := Tryz.f48
theorem h_control_CheckAct : prog.funcs[n_control_CheckAct]? = some f_control_CheckAct := Tryz.func48
abbrev n_control_Stop : Nat := 50
noncomputable abbrev f_control_Stop : Func := Tryz.f50
theorem h_control_Stop : prog.funcs[n_control_Stop]? = some f_control_Stop := Tryz.func50
abbrev n_control_Peak : Nat := 51
noncomputable abbrev f_control_Peak : Func := Tryz.f51
theorem h_control_Peak : prog.funcs[n_control_Peak]? = some f_control_Peak := Tryz.func51
abbrev n_control_Run : Nat := 59
noncomputable abbrev f_control_Run : Func := Tryz.f59
theorem h_control_Run : prog.funcs[n_control_Run]? = some f_control_Run := Tryz.func59
abbrev n_control_Ramps : Nat := 60
noncomputable abbrev f_control_Ramps : Func := Tryz.f60
theorem h_control_Ramps : prog.funcs[n_control_Ramps]? = some f_control_Ramps := Tryz.func60
abbrev n_nacelleref05_SameActs : Nat := 65
noncomputable abbrev f_nacelleref05_SameActs : Func := Tryz.f65
theorem h_nacelleref05_SameActs : prog.funcs[n_nacelleref05_SameActs]? = some f_nacelleref05_SameActs := Tryz.func65
abbrev n_nacellelaw05_own : Nat := 66
noncomputable abbrev f_nacellelaw05_own : Func := Tryz.f66
theorem h_nacellelaw05_own : prog.funcs[n_nacellelaw05_own]? = some f_nacellelaw05_own := Tryz.func66
abbrev n_control_Print : Nat := 67
noncomputable abbrev f_control_Print : Func := Tryz.f67
theorem h_control_Print : prog.funcs[n_control_Print]? = some f_control_Print := Tryz.func67
abbrev n_control_Parse : Nat := 68
noncomputable abbrev f_control_Parse : Func := Tryz.f68
theorem h_control_Parse : prog.funcs[n_control_Parse]? = some f_control_Parse := Tryz.func68
abbrev n_nacellelaw05_usual : Nat := 72
noncomputable abbrev f_nacellelaw05_usual : Func := Tryz.f72
theorem h_nacellelaw05_usual : prog.funcs[n_nacellelaw05_usual]? = some f_nacellelaw05_usual := Tryz.func72
abbrev n_nacellelaw05_begun : Nat := 73
noncomputable abbrev f_nacellelaw05_begun : Func := Tryz.f73
theorem h_nacellelaw05_begun : prog.funcs[n_nacellelaw05_begun]? = some f_nacellelaw05_begun := Tryz.func73
abbrev n_control_Table : Nat := 74
noncomputable abbrev f_control_Table : Func := Tryz.f74
theorem h_control_Table : prog.funcs[n_control_Table]? = some f_control_Table := Tryz.func74
abbrev n_control_first : Nat := 75
noncomputable abbrev f_control_first : Func := Tryz.f75
theorem h_control_first : prog.funcs[n_control_first]? = some f_control_first := Tryz.func75
abbrev n_control_checkBlade : Nat := 76
noncomputable abbrev f_control_checkBlade : Func := Tryz.f76
theorem h_control_checkBlade : prog.funcs[n_control_checkBlade]? = some f_control_checkBlade := Tryz.func76
abbrev n_control_when : Nat := 77
noncomputable abbrev f_control_when : Func := Tryz.f77
theorem h_control_when : prog.funcs[n_control_when]? = some f_control_when := Tryz.func77
abbrev n_control_State_stop : Nat := 78
noncomputable abbrev f_control_State_stop : Func := Tryz.f78
theorem h_control_State_stop : prog.funcs[n_control_State_stop]? = some f_control_State_stop := Tryz.func78
abbrev n_slices_Equal_control_State_control_State : Nat := 79
noncomputable abbrev f_slices_Equal_control_State_control_State : Func := Tryz.f79
theorem h_slices_Equal_control_State_control_State : prog.funcs[n_slices_Equal_control_State_control_State]? = some f_slices_Equal_control_State_control_State := Tryz.func79
abbrev n_nacelleref01_CheckRange : Nat := 81
noncomputable abbrev f_nacelleref01_CheckRange : Func := Tryz.f81
theorem h_nacelleref01_CheckRange : prog.funcs[n_nacelleref01_CheckRange]? = some f_nacelleref01_CheckRange := Tryz.func81
abbrev n_control_State_allowed : Nat := 83
noncomputable abbrev f_control_State_allowed : Func := Tryz.f83
theorem h_control_State_allowed : prog.funcs[n_control_State_allowed]? = some f_control_State_allowed := Tryz.func83
abbrev n_control_State_behind : Nat := 84
noncomputable abbrev f_control_State_behind : Func := Tryz.f84
theorem h_control_State_behind : prog.funcs[n_control_State_behind]? = some f_control_State_behind := Tryz.func84
abbrev n_control_within : Nat := 85
noncomputable abbrev f_control_within : Func := Tryz.f85
theorem h_control_within : prog.funcs[n_control_within]? = some f_control_within := Tryz.func85
abbrev n_control_State_propose : Nat := 86
noncomputable abbrev f_control_State_propose : Func := Tryz.f86
theorem h_control_State_propose : prog.funcs[n_control_State_propose]? = some f_control_State_propose := Tryz.func86
abbrev n_control_replay : Nat := 90
noncomputable abbrev f_control_replay : Func := Tryz.f90
theorem h_control_replay : prog.funcs[n_control_replay]? = some f_control_replay := Tryz.func90
abbrev n_control_begin : Nat := 91
noncomputable abbrev f_control_begin : Func := Tryz.f91
theorem h_control_begin : prog.funcs[n_control_begin]? = some f_control_begin := Tryz.func91
abbrev n_control_mapped_control_State_int : Nat := 92
noncomputable abbrev f_control_mapped_control_State_int : Func := Tryz.f92
theorem h_control_mapped_control_State_int : prog.funcs[n_control_mapped_control_State_int]? = some f_control_mapped_control_State_int := Tryz.func92
abbrev n_control_Speeds_1 : Nat := 93
noncomputable abbrev f_control_Speeds_1 : Func := Tryz.f93
theorem h_control_Speeds_1 : prog.funcs[n_control_Speeds_1]? = some f_control_Speeds_1 := Tryz.func93
abbrev n_control_State_feathered : Nat := 95
noncomputable abbrev f_control_State_feathered : Func := Tryz.f95
theorem h_control_State_feathered : prog.funcs[n_control_State_feathered]? = some f_control_State_feathered := Tryz.func95
abbrev n_control_mapped_int_api_Errno : Nat := 96
noncomputable abbrev f_control_mapped_int_api_Errno : Func := Tryz.f96
theorem h_control_mapped_int_api_Errno : prog.funcs[n_control_mapped_int_api_Errno]? = some f_control_mapped_int_api_Errno := Tryz.func96
abbrev n_control_CheckState_1 : Nat := 97
noncomputable abbrev f_control_CheckState_1 : Func := Tryz.f97
theorem h_control_CheckState_1 : prog.funcs[n_control_CheckState_1]? = some f_control_CheckState_1 := Tryz.func97
abbrev n_control_Act_check : Nat := 98
noncomputable abbrev f_control_Act_check : Func := Tryz.f98
theorem h_control_Act_check : prog.funcs[n_control_Act_check]? = some f_control_Act_check := Tryz.func98
abbrev n_control_State_braked : Nat := 99
noncomputable abbrev f_control_State_braked : Func := Tryz.f99
theorem h_control_State_braked : prog.funcs[n_control_State_braked]? = some f_control_State_braked := Tryz.func99
abbrev n_control_State_peak : Nat := 100
noncomputable abbrev f_control_State_peak : Func := Tryz.f100
theorem h_control_State_peak : prog.funcs[n_control_State_peak]? = some f_control_State_peak := Tryz.func100
abbrev n_control_State_safe : Nat := 101
noncomputable abbrev f_control_State_safe : Func := Tryz.f101
theorem h_control_State_safe : prog.funcs[n_control_State_safe]? = some f_control_State_safe := Tryz.func101
abbrev n_control_Run_1 : Nat := 104
noncomputable abbrev f_control_Run_1 : Func := Tryz.f104
theorem h_control_Run_1 : prog.funcs[n_control_Run_1]? = some f_control_Run_1 := Tryz.func104
abbrev n_control_Ramps_1 : Nat := 105
noncomputable abbrev f_control_Ramps_1 : Func := Tryz.f105
theorem h_control_Ramps_1 : prog.funcs[n_control_Ramps_1]? = some f_control_Ramps_1 := Tryz.func105
abbrev n_control_printable : Nat := 106
noncomputable abbrev f_control_printable : Func := Tryz.f106
theorem h_control_printable : prog.funcs[n_control_printable]? = some f_control_printable := Tryz.func106
abbrev n_control_mapped_int_string : Nat := 107
noncomputable abbrev f_control_mapped_int_string : Func := Tryz.f107
theorem h_control_mapped_int_string : prog.funcs[n_control_mapped_int_string]? = some f_control_mapped_int_string := Tryz.func107
abbrev n_strconv_Itoa : Nat := 108
noncomputable abbrev f_strconv_Itoa : Func := Tryz.f108
theorem h_strconv_Itoa : prog.funcs[n_strconv_Itoa]? = some f_strconv_Itoa := Tryz.func108
abbrev n_strings_Builder_WriteString : Nat := 109
noncomputable abbrev f_strings_Builder_WriteString : Func := Tryz.f109
theorem h_strings_Builder_WriteString : prog.funcs[n_strings_Builder_WriteString]? = some f_strings_Builder_WriteString := Tryz.func109
abbrev n_strings_Join : Nat := 110
noncomputable abbrev f_strings_Join : Func := Tryz.f110
theorem h_strings_Join : prog.funcs[n_strings_Join]? = some f_strings_Join := Tryz.func110
abbrev n_strings_Builder_String : Nat := 111
noncomputable abbrev f_strings_Builder_String : Func := Tryz.f111
theorem h_strings_Builder_String : prog.funcs[n_strings_Builder_String]? = some f_strings_Builder_String := Tryz.func111
abbrev n_strings_Lines : Nat := 112
noncomputable abbrev f_strings_Lines : Func := Tryz.f112
theorem h_strings_Lines : prog.funcs[n_strings_Lines]? = some f_strings_Lines := Tryz.func112
abbrev n_strings_CutSuffix : Nat := 113
noncomputable abbrev f_strings_CutSuffix : Func := Tryz.f113
theorem h_strings_CutSuffix : prog.funcs[n_strings_CutSuffix]? = some f_strings_CutSuffix := Tryz.func113
abbrev n_control_parsed : Nat := 114
noncomputable abbrev f_control_parsed : Func := Tryz.f114
theorem h_control_parsed : prog.funcs[n_control_parsed]? = some f_control_parsed := Tryz.func114
abbrev n_control_Table_1 : Nat := 119
noncomputable abbrev f_control_Table_1 : Func := Tryz.f119
theorem h_control_Table_1 : prog.funcs[n_control_Table_1]? = some f_control_Table_1 := Tryz.func119
abbrev n_sort_Search : Nat := 120
noncomputable abbrev f_sort_Search : Func := Tryz.f120
theorem h_sort_Search : prog.funcs[n_sort_Search]? = some f_sort_Search := Tryz.func120
abbrev n_control_Table_2 : Nat := 121
noncomputable abbrev f_control_Table_2 : Func := Tryz.f121
theorem h_control_Table_2 : prog.funcs[n_control_Table_2]? = some f_control_Table_2 := Tryz.func121
abbrev n_slices_Collect_control_State : Nat := 122
noncomputable abbrev f_slices_Collect_control_State : Func := Tryz.f122
theorem h_slices_Collect_control_State : prog.funcs[n_slices_Collect_control_State]? = some f_slices_Collect_control_State := Tryz.func122
abbrev n_control_State_steps : Nat := 123
noncomputable abbrev f_control_State_steps : Func := Tryz.f123
theorem h_control_State_steps : prog.funcs[n_control_State_steps]? = some f_control_State_steps := Tryz.func123
abbrev n_control_rules : Nat := 124
noncomputable abbrev f_control_rules : Func := Tryz.f124
theorem h_control_rules : prog.funcs[n_control_rules]? = some f_control_rules := Tryz.func124
abbrev n_slices_Contains_string_string : Nat := 125
noncomputable abbrev f_slices_Contains_string_string : Func := Tryz.f125
theorem h_slices_Contains_string_string : prog.funcs[n_slices_Contains_string_string]? = some f_slices_Contains_string_string := Tryz.func125
abbrev n_control_State_moved : Nat := 126
noncomputable abbrev f_control_State_moved : Func := Tryz.f126
theorem h_control_State_moved : prog.funcs[n_control_State_moved]? = some f_control_State_moved := Tryz.func126
abbrev n_control_State_later : Nat := 127
noncomputable abbrev f_control_State_later : Func := Tryz.f127
theorem h_control_State_later : prog.funcs[n_control_State_later]? = some f_control_State_later := Tryz.func127
abbrev n_control_plain : Nat := 128
noncomputable abbrev f_control_plain : Func := Tryz.f128
theorem h_control_plain : prog.funcs[n_control_plain]? = some f_control_plain := Tryz.func128
abbrev n_control_Act_formed : Nat := 129
noncomputable abbrev f_control_Act_formed : Func := Tryz.f129
theorem h_control_Act_formed : prog.funcs[n_control_Act_formed]? = some f_control_Act_formed := Tryz.func129
abbrev n_control_mapped_control_Act_api_Errno : Nat := 131
noncomputable abbrev f_control_mapped_control_Act_api_Errno : Func := Tryz.f131
theorem h_control_mapped_control_Act_api_Errno : prog.funcs[n_control_mapped_control_Act_api_Errno]? = some f_control_mapped_control_Act_api_Errno := Tryz.func131
abbrev n_control_printable_1 : Nat := 132
noncomputable abbrev f_control_printable_1 : Func := Tryz.f132
theorem h_control_printable_1 : prog.funcs[n_control_printable_1]? = some f_control_printable_1 := Tryz.func132
abbrev n_strings_Lines_1 : Nat := 136
noncomputable abbrev f_strings_Lines_1 : Func := Tryz.f136
theorem h_strings_Lines_1 : prog.funcs[n_strings_Lines_1]? = some f_strings_Lines_1 := Tryz.func136
abbrev n_strings_IndexByte : Nat := 137
noncomputable abbrev f_strings_IndexByte : Func := Tryz.f137
theorem h_strings_IndexByte : prog.funcs[n_strings_IndexByte]? = some f_strings_IndexByte := Tryz.func137
abbrev n_internal_stringslite_CutSuffix : Nat := 138
noncomputable abbrev f_internal_stringslite_CutSuffix : Func := Tryz.f138
theorem h_internal_stringslite_CutSuffix : prog.funcs[n_internal_stringslite_CutSuffix]? = some f_internal_stringslite_CutSuffix := Tryz.func138
abbrev n_strings_Split : Nat := 139
noncomputable abbrev f_strings_Split : Func := Tryz.f139
theorem h_strings_Split : prog.funcs[n_strings_Split]? = some f_strings_Split := Tryz.func139
abbrev n_slices_Index_string_string : Nat := 140
noncomputable abbrev f_slices_Index_string_string : Func := Tryz.f140
theorem h_slices_Index_string_string : prog.funcs[n_slices_Index_string_string]? = some f_slices_Index_string_string := Tryz.func140
abbrev n_control_integer : Nat := 141
noncomputable abbrev f_control_integer : Func := Tryz.f141
theorem h_control_integer : prog.funcs[n_control_integer]? = some f_control_integer := Tryz.func141
abbrev n_slices_AppendSeq_control_State_control_State : Nat := 142
noncomputable abbrev f_slices_AppendSeq_control_State_control_State : Func := Tryz.f142
theorem h_slices_AppendSeq_control_State_control_State : prog.funcs[n_slices_AppendSeq_control_State_control_State]? = some f_slices_AppendSeq_control_State_control_State := Tryz.func142
abbrev n_control_State_steps_1 : Nat := 143
noncomputable abbrev f_control_State_steps_1 : Func := Tryz.f143
theorem h_control_State_steps_1 : prog.funcs[n_control_State_steps_1]? = some f_control_State_steps_1 := Tryz.func143
abbrev n_control_State_resting : Nat := 144
noncomputable abbrev f_control_State_resting : Func := Tryz.f144
theorem h_control_State_resting : prog.funcs[n_control_State_resting]? = some f_control_State_resting := Tryz.func144
abbrev n_control_mode : Nat := 145
noncomputable abbrev f_control_mode : Func := Tryz.f145
theorem h_control_mode : prog.funcs[n_control_mode]? = some f_control_mode := Tryz.func145
abbrev n_control_rules_1 : Nat := 146
noncomputable abbrev f_control_rules_1 : Func := Tryz.f146
theorem h_control_rules_1 : prog.funcs[n_control_rules_1]? = some f_control_rules_1 := Tryz.func146
abbrev n_control_rules_2 : Nat := 147
noncomputable abbrev f_control_rules_2 : Func := Tryz.f147
theorem h_control_rules_2 : prog.funcs[n_control_rules_2]? = some f_control_rules_2 := Tryz.func147
abbrev n_control_rules_3 : Nat := 148
noncomputable abbrev f_control_rules_3 : Func := Tryz.f148
theorem h_control_rules_3 : prog.funcs[n_control_rules_3]? = some f_control_rules_3 := Tryz.func148
abbrev n_control_rules_4 : Nat := 149
noncomputable abbrev f_control_rules_4 : Func := Tryz.f149
theorem h_control_rules_4 : prog.funcs[n_control_rules_4]? = some f_control_rules_4 := Tryz.func149
abbrev n_internal_stringslite_HasSuffix : Nat := 154
noncomputable abbrev f_internal_stringslite_HasSuffix : Func := Tryz.f154
theorem h_internal_stringslite_HasSuffix : prog.funcs[n_internal_stringslite_HasSuffix]? = some f_internal_stringslite_HasSuffix := Tryz.func154
abbrev n_strings_genSplit : Nat := 155
noncomputable abbrev f_strings_genSplit : Func := Tryz.f155
theorem h_strings_genSplit : prog.funcs[n_strings_genSplit]? = some f_strings_genSplit := Tryz.func155
abbrev n_control_mode_1 : Nat := 156
noncomputable abbrev f_control_mode_1 : Func := Tryz.f156
theorem h_control_mode_1 : prog.funcs[n_control_mode_1]? = some f_control_mode_1 := Tryz.func156
abbrev g_control_kinds : Nat := 0
abbrev g_internal_strconv_uint64pow10 : Nat := 1
end Go.Proofs.YtkdlegfakefjgaaGreatDoor.Ix

namespace Go.Proofs.YtkdlegfakefjgaaGreatDoor.Ix
def withinS (n lo hi : Int) : Int := bif (decide (n < lo) || decide (n > hi)) then 3 else 0
def firstS (f : Nat → Int) : Nat → Nat → Int
  | 0, _ => 0
  | n + 1, i => bif f i != 0 then f i else firstS f n (i + 1)
abbrev w64 : Int → Int := IntKind.i64.wrap
def maxW (a b : Int) : Int := if b > a then b else a
def minW (a b : Int) : Int := if b < a then b else a
end Go.Proofs.YtkdlegfakefjgaaGreatDoor.Ix

namespace Go.Proofs.YtkdlegfakefjgaaGreatDoor.Ix
structure SecOK (n : Nat) (lf df : Nat → Int) (r c t tip w s p : Int) : Prop where
  n0 : 1 ≤ n
  n1 : n ≤ 32
  lf0 : ∀ i, i < n → 0 ≤ lf i ∧ lf i ≤ 1000
  lfm : ∀ i, i < n → lf (i - 1) ≤ lf i
  df0 : ∀ i, i < n → 0 ≤ df i ∧ df i ≤ 1000
  r : 1 ≤ r ∧ r ≤ 200
  c : 1 ≤ c ∧ c ≤ 100
  t : -64 ≤ t ∧ t ≤ 64
  tip : 0 ≤ tip ∧ tip ≤ 256
  w : 1 ≤ w ∧ w ≤ 50
  s : 1 ≤ s ∧ s ≤ 1000
  p : -64 ≤ p ∧ p ≤ 64
def inflP (r w s a : Int) (d : Nat) : Int := 1024 * (2 ^ d - a) * w / (2 ^ d * s * r)
def clsP (n : Nat) (t p x : Int) : Int := min (max 0 (x - (t + p))) (n - 1)
def balP (n : Nat) (lf : Nat → Int) (r c t tip w s p a : Int) (d : Nat) : Int :=
  1024 * a * (2 ^ d - a) * r - 2 ^ d * 2 ^ d * c * tip * lf (clsP n t p (inflP r w s a d)).toNat
theorem inflP_dbl (r w s a : Int) (d : Nat) : inflP r w s (2 * a) (d + 1) = inflP r w s a d := by
  unfold inflP
  rw [Int.pow_succ]
  rw [show 1024 * ((2 : Int) ^ d * 2 - 2 * a) * w = 2 * (1024 * (2 ^ d - a) * w) by grind, show (2 : Int) ^ d * 2 * s * r = 2 * (2 ^ d * s * r) by grind]
  exact Int.mul_ediv_mul_of_pos _ _ (by decide)
theorem balP_dbl (n : Nat) (lf : Nat → Int) (r c t tip w s p a : Int) (d : Nat) : balP n lf r c t tip w s p (2 * a) (d + 1) = 4 * balP n lf r c t tip w s p a d := by
  unfold balP
  rw [inflP_dbl, Int.pow_succ]
  generalize lf _ = l
  grind
variable {n : Nat} {lf df : Nat → Int} {r c t tip w s p : Int}
def IsBr (f : Int → Int) (half a : Int) : Prop := 0 ≤ a ∧ a < half ∧ f a ≤ 0 ∧ 0 < f (a + 1)
theorem IsBr.finer {d : Nat} {a : Int} (ha : IsBr (fun a => balP n lf r c t tip w s p a (d + 1)) (2 ^ d) a) :
    IsBr (fun a => balP n lf r c t tip w s p a (d + 1 + 1)) (2 ^ (d + 1)) (if 0 < balP n lf r c t tip w s p (2 * a + 1) (d + 1 + 1) then 2 * a else 2 * a + 1) := by
  obtain ⟨a1, a2, a3, a4⟩ := ha
  simp only at a3 a4
  have e0 := balP_dbl n lf r c t tip w s p a (d + 1)
  have e1 := balP_dbl n lf r c t tip w s p (a + 1) (d + 1)
  rw [show 2 * (a + 1) = 2 * a + 1 + 1 by omega] at e1
  have hp := Int.pow_succ (2 : Int) d
  unfold IsBr
  simp only
  split <;> (refine ⟨by omega, by omega, by omega, ?_⟩)
  · assumption
  · omega
def ofP (n : Nat) (lf df : Nat → Int) (r c t tip p x : Int) : Int :=
  r * c * tip * (x * lf (clsP n t p x).toNat - 1024 * df (clsP n t p x).toNat)
def stepsP (n : Nat) (lf df : Nat → Int) (r c t tip p least most : Int) : Nat → Int × Int
  | 0 => (min (ofP n lf df r c t tip p least) (ofP n lf df r c t tip p most), max (ofP n lf df r c t tip p least) (ofP n lf df r c t tip p most))
  | k + 1 =>
    let o := stepsP n lf df r c t tip p least most k
    let j := t + p + k - 1
    if j > least ∧ j < most then (min o.1 (ofP n lf df r c t tip p j), max o.2 (ofP n lf df r c t tip p j)) else o
variable {least most : Int}
def torqueP (n : Nat) (lf df : Nat → Int) (r c t tip w s p a : Int) (d : Nat) : Int × Int :=
  stepsP n lf df r c t tip p (inflP r w s (a + 1) d) (inflP r w s a d) (n + 2)
end Go.Proofs.YtkdlegfakefjgaaGreatDoor.Ix

namespace Go.Proofs.YtkdlegfakefjgaaGreatDoor.Ix
variable {n : Nat} {lf df : Nat → Int} {r c t tip w s p : Int}
theorem maxW_eq (a b : Int) : maxW a b = max a b := by unfold maxW; omega
end Go.Proofs.YtkdlegfakefjgaaGreatDoor.Ix

namespace Go.Proofs.YtkdlegfakefjgaaGreatDoor.Ix
def orE (a b : Int) : Int := bif a != 0 then a else b
theorem orE_zero {a b : Int} : orE a b = 0 ↔ a = 0 ∧ b = 0 := by
  unfold orE
  by_cases h : a = 0
  · simp [h]
  · have : (a != 0) = true := by simpa using h
    simp [this, h]
theorem orE_right (a : Int) : orE a 0 = a := by
  unfold orE
  by_cases h : a = 0
  · simp [h]
  · have : (a != 0) = true := by simpa using h
    simp [this]
theorem orE_assoc (a b c : Int) : orE (orE a b) c = orE a (orE b c) := by
  unfold orE
  by_cases h : a = 0
  · simp [h]
  · have : (a != 0) = true := by simpa using h
    simp [this]
theorem firstS_zero (f : Nat → Int) : ∀ (n i : Nat), firstS f n i = 0 ↔ ∀ j, i ≤ j → j < i + n → f j = 0
  | 0, i => by simp [firstS]; intro j h1 h2; omega
  | n + 1, i => by
    have ih := firstS_zero f n (i + 1)
    show orE (f i) (firstS f n (i + 1)) = 0 ↔ _
    rw [orE_zero, ih]
    constructor
    · rintro ⟨h1, h2⟩ j g1 g2
      by_cases e : j = i
      · rw [e]; exact h1
      · exact h2 j (by omega) (by omega)
    · intro h
      exact ⟨h i (by omega) (by omega), fun j g1 g2 => h j (by omega) (by omega)⟩
theorem firstS_step (f : Nat → Int) (n i : Nat) : firstS f (n + 1) i = orE (f i) (firstS f n (i + 1)) := rfl
theorem withinS_zero {n lo hi : Int} : withinS n lo hi = 0 ↔ lo ≤ n ∧ n ≤ hi := by
  unfold withinS
  by_cases h1 : n < lo
  · simp [h1]; (try omega)
  · by_cases h2 : n > hi
    · simp [h2]; (try omega)
    · simp [h1, h2]; (try omega)
theorem bif_zero {b : Bool} {e : Int} (he : e ≠ 0) : (bif b then e else 0) = 0 ↔ b = false := by
  cases b <;> simp [he]
def polarS (nl : Nat) (lf : Nat → Int) (nd : Nat) (df : Nat → Int) : Int :=
  orE (bif (nl : Int) == 0 then 12 else 0) (orE (bif decide ((nl : Int) > 32) then 5 else 0) (orE (bif (nd : Int) != nl then 2 else 0)
    (orE (firstS (fun i => orE (withinS (lf i) 0 1000) (bif decide (lf i < lf (i - 1)) then 11 else 0)) nl 0) (firstS (fun i => withinS (df i) 0 1000) nd 0))))
def ringS (r c t tip : Int) : Int := orE (withinS r 1 200) (orE (withinS c 1 100) (orE (withinS t (-64) 64) (withinS tip 0 256)))
def ringAt (r1 r2 r3 r4 : Nat → Int) (i : Nat) : Int := orE (ringS (r1 i) (r2 i) (r3 i) (r4 i)) (bif decide (0 < i) && decide (r1 i ≤ r1 (i - 1)) then 11 else 0)
def bladeS (nl : Nat) (lf : Nat → Int) (nd : Nat) (df : Nat → Int) (nr : Nat) (r1 r2 r3 r4 : Nat → Int) : Int :=
  orE (polarS nl lf nd df) (orE (bif (nr : Int) == 0 then 12 else 0) (orE (bif decide ((nr : Int) > 16) then 5 else 0) (firstS (ringAt r1 r2 r3 r4) nr 0)))
def flowS (w s p : Int) : Int := orE (withinS w 1 50) (orE (withinS s 1 1000) (withinS p (-64) 64))
variable {nl nd nr : Nat} {lf df r1 r2 r3 r4 : Nat → Int} {w s p : Int}
theorem bladeS_ok (hb : bladeS nl lf nd df nr r1 r2 r3 r4 = 0) (hf : flowS w s p = 0) :
    nd = nl ∧ 1 ≤ nr ∧ nr ≤ 16 ∧ ∀ i, i < nr → SecOK nl lf df (r1 i) (r2 i) (r3 i) (r4 i) w s p := by
  simp only [bladeS, polarS, flowS, orE_zero, firstS_zero, withinS_zero, ringAt, ringS] at hb hf
  obtain ⟨⟨h1, h2, h3, h4, h5⟩, h6, h7, h8⟩ := hb
  rw [bif_zero (by decide)] at h1 h2 h3 h6 h7
  simp at h1 h2 h3 h6 h7
  refine ⟨by omega, by omega, by omega, fun i hi => ?_⟩
  have h3' : nd = nl := by omega
  have h9 := h8 i (by omega) (by omega)
  refine ⟨by omega, by omega, fun j hj => (h4 j (by omega) (by omega)).1, fun j hj => ?_, fun j hj => h5 j (by omega) (by omega), h9.1.1, h9.1.2.1, h9.1.2.2.1, h9.1.2.2.2, hf.1, hf.2.1, hf.2.2⟩
  have := (h4 j (by omega) (by omega)).2
  rw [bif_zero (by decide)] at this
  simp at this; omega
end Go.Proofs.YtkdlegfakefjgaaGreatDoor.Ix

namespace Go.Proofs.YtkdlegfakefjgaaGreatDoor.Ix
structure Bl where
  nl : Nat
  nd : Nat
  nr : Nat
  lf : Nat → Int
  df : Nat → Int
  r1 : Nat → Int
  r2 : Nat → Int
  r3 : Nat → Int
  r4 : Nat → Int
structure Fl where
  w : Int
  s : Int
  p : Int
abbrev bladeI (nl nd nr : Nat) (lf df r1 r2 r3 r4 : Nat → Int) : IV :=
  .agg [.lst none 1 nl fun i => [.int .i64 (lf i)], .lst none 1 nd fun i => [.int .i64 (df i)], .lst none 4 nr fun i => [.int .i64 (r1 i), .int .i64 (r2 i), .int .i64 (r3 i), .int .i64 (r4 i)]]
abbrev flowI (w s p : Int) : IV := .agg [.int .i64 w, .int .i64 s, .int .i64 p]
abbrev Bl.iv (b : Bl) : IV := bladeI b.nl b.nd b.nr b.lf b.df b.r1 b.r2 b.r3 b.r4
abbrev Fl.iv (f : Fl) : IV := flowI f.w f.s f.p
def Bl.err (b : Bl) : Int := bladeS b.nl b.lf b.nd b.df b.nr b.r1 b.r2 b.r3 b.r4
def Fl.err (f : Fl) : Int := flowS f.w f.s f.p
def Bl.ok (b : Bl) (f : Fl) (i : Nat) : Prop := SecOK b.nl b.lf b.df (b.r1 i) (b.r2 i) (b.r3 i) (b.r4 i) f.w f.s f.p
def Bl.tor (b : Bl) (f : Fl) (i : Nat) (a : Int) (d : Nat) : Int × Int := torqueP b.nl b.lf b.df (b.r1 i) (b.r2 i) (b.r3 i) (b.r4 i) f.w f.s f.p a d
theorem Bl.good {b : Bl} {f : Fl} (hb : b.err = 0) (hf : f.err = 0) : b.nd = b.nl ∧ 1 ≤ b.nr ∧ b.nr ≤ 16 ∧ ∀ i, i < b.nr → b.ok f i := bladeS_ok hb hf
end Go.Proofs.YtkdlegfakefjgaaGreatDoor.Ix

namespace Go.Proofs.YtkdlegfakefjgaaGreatDoor.Ix
open Go.Proofs
set_option maxRecDepth 100000
set_option linter.unusedVariables false
set_option linter.unusedSimpArgs false
noncomputable abbrev Γs (gl : Nat → IV) : Env := ⟨prog, T, gl, 0, Vis prog gl, none, none, []⟩
noncomputable abbrev Cs (gl : Nat → IV) : Con := ⟨Comp prog gl, CompO prog gl, VisO prog gl⟩
variable {gl : Nat → IV}
theorem mk {g : Nat} {fn : Func} {c : Code} {up up2 : List Ces} {args : List IV} {rv : IV} (hf : prog.funcs[g]? = some fn) (hb : fn.body = some c) (hn : (fn.name == "runtime.NumGoroutine") = false)
    (h : ibody (Cs gl) (Γs gl) fn up args (fun r up' => r = rv ∧ up' = up2)) : Comp prog gl g up args rv up2 :=
  comp_of_body (Γ := Γs gl) mixed0 tok0 ⟨fun _ _ _ _ _ h => h, fun _ _ _ _ h => h⟩ ⟨fun _ _ _ _ h => h, fun _ _ _ _ h => h⟩ hf hb hn h
def sIdle : ByteArray := ⟨#[105, 100, 108, 101]⟩
def sRun : ByteArray := ⟨#[114, 117, 110]⟩
def sStop : ByteArray := ⟨#[115, 116, 111, 112]⟩
structure Mc where
  wind : Int
  fea : Int
  rate : Int
  tor : Int
  lim : Int
  rated : Int
  gain : Int
def Mc.cs (m : Mc) : List IV := [.int .i64 m.wind, .int .i64 m.fea, .int .i64 m.rate, .int .i64 m.tor, .int .i64 m.lim, .int .i64 m.rated, .int .i64 m.gain]
def Mc.iv (m : Mc) : IV := .agg [.int .i64 m.wind, .int .i64 m.fea, .int .i64 m.rate, .int .i64 m.tor, .int .i64 m.lim, .int .i64 m.rated, .int .i64 m.gain]
structure Sta where
  mode : ByteArray
  speed : Int
  p0 : Int
  p1 : Int
  p2 : Int
  tor : Int
  stuck : Int
def Sta.iv (s : Sta) : IV := .agg [.str s.mode, .int .i64 s.speed, .int .i64 s.p0, .int .i64 s.p1, .int .i64 s.p2, .int .i64 s.tor, .int .i64 s.stuck]
structure Ac where
  kind : ByteArray
  wind : Int
  pitch : Int
  tor : Int
  stuck : Int
def Ac.iv (a : Ac) : IV := .agg [.str a.kind, .int .i64 a.wind, .int .i64 a.pitch, .int .i64 a.tor, .int .i64 a.stuck]
def orL : List Int → Int
  | [] => 0
  | a :: r => orE a (orL r)
theorem orL_first (l : List Int) : ∀ (f : Nat → Int) (k : Nat), (∀ i, i < l.length → f (k + i) = l.getD i 0) → firstS f l.length k = orL l := by
  induction l with
  | nil => intro f k _; rfl
  | cons a r ih =>
    intro f k h
    show firstS f (r.length + 1) k = orE a (orL r)
    rw [firstS_step, ih f (k + 1) (fun i hi => by
      have := h (i + 1) (by simp; omega)
      rw [show k + 1 + i = k + (i + 1) by omega, this]; rfl)]
    have := h 0 (by simp)
    rw [show k + 0 = k by omega] at this
    rw [this]; rfl
theorem c_when (up : List Ces) (b : Bool) (e : Int) : Cs gl n_control_when up [.bool b, .int .i64 e] (.int .i64 (bif b then e else 0)) up := by
  refine mk h_control_when rfl rfl ?_
  cases b <;> (conv => whnf) <;> exact ⟨rfl, rfl⟩
theorem c_within (up : List Ces) (n lo hi : Int) : Cs gl n_control_within up [.int .i64 n, .int .i64 lo, .int .i64 hi] (.int .i64 (withinS n lo hi)) up := by
  refine mk h_control_within rfl rfl ?_
  conv => whnf
  split
  · rename_i h1
    conv => whnf
    refine .mk _ _ _ _ _ (leL_refl _) (c_when _ _ _) rfl ?_
    conv => whnf
    simp [withinS, h1]
  · rename_i h1
    conv => whnf
    refine .mk _ _ _ _ _ (leL_refl _) (c_when _ _ _) rfl ?_
    conv => whnf
    simp [withinS, h1]
theorem c_first (up : List Ces) (n : Nat) (hn : n ≤ 4611686018427387904) (f : Nat → Int) : Cs gl n_control_first up [.lst none 1 n fun i => [.int .i64 (f i)]] (.int .i64 (firstS f n 0)) up := by
  refine mk h_control_first rfl rfl ?_
  conv => whnf
  refine .mk (α := {i : Nat // i ≤ n ∧ firstS f n 0 = firstS f (n - i) i}) (fun i => ⟨[(7, .int .i64 i.1), (6, .int .i64 n), (5, .lst none 1 n fun i => [.int .i64 (f i)])], [], up⟩) (fun i => n - i.1) ⟨0, Nat.zero_le _, rfl⟩ ⟨?_, trivial, rfl, rfl⟩ ?_
  · exact ⟨leV_refl _, leV_refl _, leV_refl _, trivial⟩
  · rintro ⟨i, hi, hf⟩
    by_cases hlt : i < n
    · have q : decide ((i : Int) < n) = true := decide_eq_true (by omega)
      have hstep : firstS f (n - i) i = bif f i != 0 then f i else firstS f (n - (i + 1)) (i + 1) := by
        rw [show n - i = (n - (i + 1)) + 1 by omega]; rfl
      conv => whnf
      split
      rotate_left
      · rename_i h
        exact Bool.noConfusion ((q).symm.trans h)
      rename_i hN
      clear hN
      conv => whnf
      split
      rotate_left
      · rename_i h
        exact Bool.noConfusion ((q).symm.trans h)
      rename_i hN
      clear hN
      conv => whnf
      split
      · rename_i h2
        have h2' : (f i != 0) = true := h2
        conv => whnf
        refine ⟨?_, rfl⟩
        show IV.int .i64 (f i) = .int .i64 (firstS f n 0)
        rw [hf, hstep, h2']; rfl
      · rename_i h2
        have h2' : (f i != 0) = false := h2
        conv => whnf
        have hw : w64 ((i : Int) + 1) = ((i + 1 : Nat) : Int) := by rw [w64, wrap_in] <;> omega
        exact ⟨⟨i + 1, hlt, by rw [hf, hstep, h2']; rfl⟩, ⟨⟨leV_int hw, leV_refl _, leV_refl _, trivial⟩, trivial, rfl, rfl⟩, (by show n - (i + 1) < n - i; omega)⟩
    · have q : decide ((i : Int) < n) = false := decide_eq_false (by omega)
      have : i = n := by omega
      conv => whnf
      split
      · rename_i h
        exact Bool.noConfusion ((q).symm.trans h)
      rename_i hN
      clear hN
      conv => whnf
      refine ⟨?_, rfl⟩
      show IV.int .i64 0 = .int .i64 (firstS f n 0)
      rw [hf, this, Nat.sub_self]; rfl
theorem c_fl (up : List Ces) (l : List Int) (hl : l.length ≤ 100) (f : Nat → List IV) (h : ∀ i, i < l.length → f i = [.int .i64 (l.getD i 0)]) : Cs gl n_control_first up [.lst none 1 l.length f] (.int .i64 (orL l)) up := by
  have := c_first (gl := gl) up l.length (by omega) fun i => l.getD i 0
  rw [orL_first l _ 0 (fun i _ => by rw [Nat.zero_add])] at this
  refine Comp.le ?_ this
  exact ⟨⟨.inl rfl, rfl, rfl, fun i hi => h i hi⟩, trivial⟩
theorem c_f2 (up : List Ces) (f : Nat → List IV) (a b : Int) (h0 : f 0 = [.int .i64 a]) (h1 : f 1 = [.int .i64 b]) : Cs gl n_control_first up [.lst none 1 2 f] (.int .i64 (orL [a, b])) up :=
  c_fl up [a, b] (by simp) f fun i hi => by
    match i, hi with
    | 0, _ => exact h0
    | 1, _ => exact h1
theorem c_f3 (up : List Ces) (f : Nat → List IV) (a b c : Int) (h0 : f 0 = [.int .i64 a]) (h1 : f 1 = [.int .i64 b]) (h2 : f 2 = [.int .i64 c]) : Cs gl n_control_first up [.lst none 1 3 f] (.int .i64 (orL [a, b, c])) up :=
  c_fl up [a, b, c] (by simp) f fun i hi => by
    match i, hi with
    | 0, _ => exact h0
    | 1, _ => exact h1
    | 2, _ => exact h2
theorem c_f6 (up : List Ces) (f : Nat → List IV) (a b c d e g : Int) (h0 : f 0 = [.int .i64 a]) (h1 : f 1 = [.int .i64 b]) (h2 : f 2 = [.int .i64 c]) (h3 : f 3 = [.int .i64 d]) (h4 : f 4 = [.int .i64 e]) (h5 : f 5 = [.int .i64 g]) : Cs gl n_control_first up [.lst none 1 6 f] (.int .i64 (orL [a, b, c, d, e, g])) up :=
  c_fl up [a, b, c, d, e, g] (by simp) f fun i hi => by
    match i, hi with
    | 0, _ => exact h0
    | 1, _ => exact h1
    | 2, _ => exact h2
    | 3, _ => exact h3
    | 4, _ => exact h4
    | 5, _ => exact h5
theorem c_f9 (up : List Ces) (f : Nat → List IV) (a b c d e g p q r : Int) (h0 : f 0 = [.int .i64 a]) (h1 : f 1 = [.int .i64 b]) (h2 : f 2 = [.int .i64 c]) (h3 : f 3 = [.int .i64 d]) (h4 : f 4 = [.int .i64 e]) (h5 : f 5 = [.int .i64 g]) (h6 : f 6 = [.int .i64 p]) (h7 : f 7 = [.int .i64 q]) (h8 : f 8 = [.int .i64 r]) : Cs gl n_control_first up [.lst none 1 9 f] (.int .i64 (orL [a, b, c, d, e, g, p, q, r])) up :=
  c_fl up [a, b, c, d, e, g, p, q, r] (by simp) f fun i hi => by
    match i, hi with
    | 0, _ => exact h0
    | 1, _ => exact h1
    | 2, _ => exact h2
    | 3, _ => exact h3
    | 4, _ => exact h4
    | 5, _ => exact h5
    | 6, _ => exact h6
    | 7, _ => exact h7
    | 8, _ => exact h8
def Mc.err (m : Mc) : Int := orL [withinS m.wind 1 100, withinS m.fea 1 100, withinS m.rate 1 100, withinS m.tor 0 100, withinS m.lim 1 1000, withinS m.rated 1 1000, withinS m.gain 1 16,
  bif decide (m.rate > m.fea) || decide (m.rated > m.lim) then 4 else 0, bif decide (w64 (2 * m.fea) ≤ m.wind) then 24 else 0]
theorem c_CheckMachine (up : List Ces) (m : Mc) : Cs gl n_control_CheckMachine up [m.iv] (.int .i64 m.err) up := by
  refine mk h_control_CheckMachine rfl rfl ?_
  cases q : decide (m.rate > m.fea) with
  | true =>
    conv => whnf
    repeat first
      | (refine DRAW.seek ?_; repeat (first | refine TRYD.take ?_ | refine TRYD.next ?_); conv => whnf)
      | (refine HOLD.mk (by first | exact trivial | exact ⟨⟨rfl, rfl⟩, trivial⟩ | exact ⟨⟨rfl, rfl⟩, ⟨rfl, rfl⟩, trivial⟩) ?_; (conv => whnf))
      | (refine CALL0.by (c_within ..) rfl ?_; conv => whnf)
      | (refine CALLQ.mk _ _ _ (leL_refl _) (c_within ..) rfl ?_; conv => whnf)
    split
    rotate_left
    · rename_i h
      exact Bool.noConfusion ((q).symm.trans h)
    rename_i hN
    clear hN
    conv => whnf
    repeat first
      | (refine DRAW.seek ?_; repeat (first | refine TRYD.take ?_ | refine TRYD.next ?_); conv => whnf)
      | (refine HOLD.mk (by first | exact trivial | exact ⟨⟨rfl, rfl⟩, trivial⟩ | exact ⟨⟨rfl, rfl⟩, ⟨rfl, rfl⟩, trivial⟩) ?_; (conv => whnf))
      | (refine CALL0.by (c_within ..) rfl ?_; conv => whnf)
      | (refine CALLQ.mk _ _ _ (leL_refl _) (c_within ..) rfl ?_; conv => whnf)
      | (refine CALL0.by (c_when ..) rfl ?_; conv => whnf)
      | (refine CALLQ.mk _ _ _ (leL_refl _) (c_when ..) rfl ?_; conv => whnf)
    refine .mk _ _ _ _ _ (leL_refl _) (c_f9 _ _ _ _ _ _ _ _ _ _ _ rfl rfl rfl rfl rfl rfl rfl rfl rfl) rfl ?_
    conv => whnf
    refine ⟨?_, rfl⟩
    unfold Mc.err
    rw [q]; rfl
  | false =>
    conv => whnf
    repeat first
      | (refine DRAW.seek ?_; repeat (first | refine TRYD.take ?_ | refine TRYD.next ?_); conv => whnf)
      | (refine HOLD.mk (by first | exact trivial | exact ⟨⟨rfl, rfl⟩, trivial⟩ | exact ⟨⟨rfl, rfl⟩, ⟨rfl, rfl⟩, trivial⟩) ?_; (conv => whnf))
      | (refine CALL0.by (c_within ..) rfl ?_; conv => whnf)
      | (refine CALLQ.mk _ _ _ (leL_refl _) (c_within ..) rfl ?_; conv => whnf)
    split
    · rename_i h
      exact Bool.noConfusion ((q).symm.trans h)
    rename_i hN
    clear hN
    conv => whnf
    repeat first
      | (refine DRAW.seek ?_; repeat (first | refine TRYD.take ?_ | refine TRYD.next ?_); conv => whnf)
      | (refine HOLD.mk (by first | exact trivial | exact ⟨⟨rfl, rfl⟩, trivial⟩ | exact ⟨⟨rfl, rfl⟩, ⟨rfl, rfl⟩, trivial⟩) ?_; (conv => whnf))
      | (refine CALL0.by (c_within ..) rfl ?_; conv => whnf)
      | (refine CALLQ.mk _ _ _ (leL_refl _) (c_within ..) rfl ?_; conv => whnf)
      | (refine CALL0.by (c_when ..) rfl ?_; conv => whnf)
      | (refine CALLQ.mk _ _ _ (leL_refl _) (c_when ..) rfl ?_; conv => whnf)
    refine .mk _ _ _ _ _ (leL_refl _) (c_f9 _ _ _ _ _ _ _ _ _ _ _ rfl rfl rfl rfl rfl rfl rfl rfl rfl) rfl ?_
    conv => whnf
    refine ⟨?_, rfl⟩
    unfold Mc.err
    rw [q]; rfl
theorem c_checkBlade (up : List Ces) (n : Int) : Cs gl n_control_checkBlade up [.int .i64 n] (.int .i64 (withinS n (-1) 2)) up := by
  refine mk h_control_checkBlade rfl rfl ?_
  conv => whnf
  refine .mk _ _ _ _ _ (leL_refl _) (c_within _ _ _ _) rfl ?_
  conv => whnf
  exact ⟨rfl, rfl⟩
def atA (a : Int) : List Int → Int
  | [] => 0
  | p :: r => (if p = a then 1 else 0) + atA a r
theorem c_feathered (up : List Ces) (s : Sta) (a : Int) : Cs gl n_control_State_feathered up [s.iv, .int .i64 a] (.int .i64 (atA a [s.p0, s.p1, s.p2])) up := by
  refine mk h_control_State_feathered rfl rfl ?_
  conv => whnf
  refine .mk (α := {k : Nat // k ≤ 3}) (fun k => ⟨[(10, .int .i64 k.1), (9, .agg [.int .i64 s.p0, .int .i64 s.p1, .int .i64 s.p2]), (5, .int .i64 (atA a ([s.p0, s.p1, s.p2].take k.1))), (1, .int .i64 a)], [], up⟩) (fun k => 3 - k.1) ⟨0, Nat.zero_le _⟩ ⟨?_, trivial, rfl, rfl⟩ ?_
  · exact ⟨leV_refl _, leV_refl _, leV_refl _, leV_refl _, trivial⟩
  rintro ⟨k, hk⟩
  obtain rfl | rfl | rfl | rfl : k = 0 ∨ k = 1 ∨ k = 2 ∨ k = 3 := by omega
  · cases q : (s.p0 == a) with
    | true =>
      have e : s.p0 = a := by simpa using q
      conv => whnf
      split
      rotate_left
      · rename_i h
        exact Bool.noConfusion ((q).symm.trans h)
      rename_i hN
      clear hN
      conv => whnf
      refine ⟨⟨1, by omega⟩, ⟨⟨leV_refl _, leV_refl _, leV_int ?_, leV_refl _, trivial⟩, trivial, rfl, rfl⟩, by simp⟩
      show w64 (atA a ([s.p0, s.p1, s.p2].take 0) + 1) = atA a ([s.p0, s.p1, s.p2].take 1)
      simp only [List.take, atA, e, if_true]
      rw [w64, wrap_in (by repeat (first | omega | split)) (by repeat (first | omega | split))]
      omega
    | false =>
      have e : ¬ s.p0 = a := by simpa using q
      conv => whnf
      split
      · rename_i h
        exact Bool.noConfusion ((q).symm.trans h)
      rename_i hN
      clear hN
      conv => whnf
      refine ⟨⟨1, by omega⟩, ⟨⟨leV_refl _, leV_refl _, leV_int ?_, leV_refl _, trivial⟩, trivial, rfl, rfl⟩, by simp⟩
      simp only [List.take, atA, if_neg e]
      omega
  · cases q : (s.p1 == a) with
    | true =>
      have e : s.p1 = a := by simpa using q
      conv => whnf
      split
      rotate_left
      · rename_i h
        exact Bool.noConfusion ((q).symm.trans h)
      rename_i hN
      clear hN
      conv => whnf
      refine ⟨⟨2, by omega⟩, ⟨⟨leV_refl _, leV_refl _, leV_int ?_, leV_refl _, trivial⟩, trivial, rfl, rfl⟩, by simp⟩
      show w64 (atA a ([s.p0, s.p1, s.p2].take 1) + 1) = atA a ([s.p0, s.p1, s.p2].take 2)
      simp only [List.take, atA, e, if_true]
      rw [w64, wrap_in (by repeat (first | omega | split)) (by repeat (first | omega | split))]
      omega
    | false =>
      have e : ¬ s.p1 = a := by simpa using q
      conv => whnf
      split
      · rename_i h
        exact Bool.noConfusion ((q).symm.trans h)
      rename_i hN
      clear hN
      conv => whnf
      refine ⟨⟨2, by omega⟩, ⟨⟨leV_refl _, leV_refl _, leV_int ?_, leV_refl _, trivial⟩, trivial, rfl, rfl⟩, by simp⟩
      simp only [List.take, atA, if_neg e]
      omega
  · cases q : (s.p2 == a) with
    | true =>
      have e : s.p2 = a := by simpa using q
      conv => whnf
      split
      rotate_left
      · rename_i h
        exact Bool.noConfusion ((q).symm.trans h)
      rename_i hN
      clear hN
      conv => whnf
      refine ⟨⟨3, by omega⟩, ⟨⟨leV_refl _, leV_refl _, leV_int ?_, leV_refl _, trivial⟩, trivial, rfl, rfl⟩, by simp⟩
      show w64 (atA a ([s.p0, s.p1, s.p2].take 2) + 1) = atA a ([s.p0, s.p1, s.p2].take 3)
      simp only [List.take, atA, e, if_true]
      rw [w64, wrap_in (by repeat (first | omega | split)) (by repeat (first | omega | split))]
      omega
    | false =>
      have e : ¬ s.p2 = a := by simpa using q
      conv => whnf
      split
      · rename_i h
        exact Bool.noConfusion ((q).symm.trans h)
      rename_i hN
      clear hN
      conv => whnf
      refine ⟨⟨3, by omega⟩, ⟨⟨leV_refl _, leV_refl _, leV_int ?_, leV_refl _, trivial⟩, trivial, rfl, rfl⟩, by simp⟩
      simp only [List.take, atA, if_neg e]
      omega
  · conv => whnf
    exact ⟨rfl, rfl⟩
end Go.Proofs.YtkdlegfakefjgaaGreatDoor.Ix

namespace Go.Proofs.YtkdlegfakefjgaaGreatDoor.Ix
open Go.Proofs
set_option maxRecDepth 100000
set_option linter.unusedVariables false
set_option linter.unusedSimpArgs false
variable {gl : Nat → IV}
theorem c_CheckState1 (A B : Ces) (up : List Ces) (d : Nat) (m : Mc) (hc : lookC B d = some m.cs) (x : Int) : Cs gl n_control_CheckState_1 (A :: B :: up) [.int .i64 x, .ptr 2 d 0] (.int .i64 (withinS x 0 m.fea)) (A :: B :: up) := by
  refine mk h_control_CheckState_1 rfl rfl ?_
  conv => whnf
  split
  rotate_left
  · rename_i h; exact absurd (hc.symm.trans h) nofun
  rename_i c0 h
  obtain rfl := Option.some.inj (hc.symm.trans h)
  clear h
  conv => whnf
  refine .mk _ _ _ _ _ (leL_refl _) (c_within _ _ _ _) rfl ?_
  conv => whnf
  exact ⟨rfl, rfl⟩
theorem c_mappedI (B : Ces) (up : List Ces) (n : Nat) (hn : n ≤ 1000000) (f φ : Nat → Int) (k d : Nat) (hk : ∀ i, i < n → Cs gl k ([] :: B :: up) [.int .i64 (f i), .ptr 2 d 0] (.int .i64 (φ i)) ([] :: B :: up)) :
    Cs gl n_control_mapped_int_api_Errno (B :: up) [.lst none 1 n fun i => [.int .i64 (f i)], .fn k [] [.ptr 1 d 0]] (.lst (some 19) 1 n fun i => [.int .i64 (φ i)]) (B :: up) := by
  refine mk h_control_mapped_int_api_Errno rfl rfl ?_
  conv => whnf
  refine .mk (α := {i : Nat // i ≤ n}) (fun i => ⟨[(10, .int .i64 i.1), (9, .int .i64 n), (8, .lst none 1 n fun i => [.int .i64 (f i)]), (5, .lst (some 19) 1 i.1 fun i => [.int .i64 (φ i)]), (1, .fn k [] [.ptr 1 d 0])], [], B :: up⟩) (fun i => n - i.1) ⟨0, Nat.zero_le _⟩ ⟨?_, trivial, rfl, rfl⟩ ?_
  · exact ⟨leV_refl _, leV_refl _, leV_refl _, rfl, leV_refl _, trivial⟩
  rintro ⟨i, hi⟩
  have hw : w64 ((i : Int) + 1) = ((i + 1 : Nat) : Int) := by rw [w64, wrap_in] <;> omega
  by_cases hlt : i < n
  · have q : decide ((i : Int) < n) = true := decide_eq_true (by omega)
    conv => whnf
    split
    rotate_left
    · rename_i h
      exact Bool.noConfusion ((q).symm.trans h)
    rename_i hN
    clear hN
    conv => whnf
    split
    rotate_left
    · rename_i h
      exact Bool.noConfusion ((q).symm.trans h)
    rename_i hN
    clear hN
    conv => whnf
    refine .mk _ _ _ _ _ (leL_refl _) (hk i hlt) rfl ?_
    conv => whnf
    split
    rotate_left
    · rename_i h
      have h' : decide (i + 1 ≤ 1073741824) = false := h
      simp at h' <;> omega
    conv => whnf
    refine ⟨⟨i + 1, hlt⟩, ⟨⟨leV_int hw, leV_refl _, leV_refl _, ⟨.inr rfl, rfl, rfl, fun j hj => ?_⟩, leV_refl _, trivial⟩, trivial, rfl, rfl⟩, (by show n - (i + 1) < n - i; omega)⟩
    show (if j < i then [IV.int .i64 (φ j)] else litF 1 [.int .i64 (φ i)] (j - i)) = [IV.int .i64 (φ j)]
    split
    · rfl
    · have : j = i := by have : j < i + 1 := hj; omega
      subst this; rw [Nat.sub_self]; rfl
  · have q : decide ((i : Int) < n) = false := decide_eq_false (by omega)
    have : i = n := by omega
    subst this
    conv => whnf
    split
    · rename_i h
      exact Bool.noConfusion ((q).symm.trans h)
    rename_i hN
    clear hN
    conv => whnf
    exact ⟨rfl, rfl⟩
def Sta.known (s : Sta) : Bool := s.mode == sIdle || (s.mode == sRun || (s.mode == sStop || false))
def Sta.fits (s : Sta) (m : Mc) : Bool := bif s.mode == sIdle then (s.speed == 0 && (s.tor == 0 && decide (atA m.fea [s.p0, s.p1, s.p2] ≥ 2))) else bif s.mode == sRun then true else bif s.mode == sStop then s.tor == 0 else false
def Sta.err1 (s : Sta) (m : Mc) : Int := orL [m.err, bif !s.known then 13 else 0, withinS s.speed 0 m.lim]
def Sta.err2 (s : Sta) (m : Mc) : Int := orL [withinS s.p0 0 m.fea, withinS s.p1 0 m.fea, withinS s.p2 0 m.fea, withinS s.tor 0 m.tor, withinS s.stuck (-1) 2, bif !s.fits m then 20 else 0]
def Sta.err (s : Sta) (m : Mc) : Int := orE (s.err1 m) (s.err2 m)
set_option maxHeartbeats 8000000 in
theorem c_CheckState (up : List Ces) (m : Mc) (s : Sta) : Cs gl n_control_CheckState up [m.iv, s.iv] (.int .i64 (s.err m)) up := by
  refine mk h_control_CheckState rfl rfl ?_
  cases q1 : s.speed == 0 with
  | false =>
    have q2 : True := trivial
    conv => whnf
    refine DRAW.seek ?_
    repeat (first | refine TRYD.take ?_ | refine TRYD.next ?_)
    conv => whnf
    split
    · rename_i h
      exact Bool.noConfusion ((q1).symm.trans h)
    rename_i hN
    clear hN
    conv => whnf
    repeat first
      | (refine DRAW.seek ?_; repeat (first | refine TRYD.take ?_ | refine TRYD.next ?_); conv => whnf)
      | (refine HOLD.mk (by first | exact trivial | exact ⟨⟨rfl, rfl⟩, trivial⟩ | exact ⟨⟨rfl, rfl⟩, ⟨rfl, rfl⟩, trivial⟩) ?_; (conv => whnf))
      | (refine CALL0.by (c_CheckMachine ..) rfl ?_; conv => whnf)
      | (refine CALLQ.mk _ _ _ (leL_refl _) (c_CheckMachine ..) rfl ?_; conv => whnf)
      | (refine CALL0.by (c_when ..) rfl ?_; conv => whnf)
      | (refine CALLQ.mk _ _ _ (leL_refl _) (c_when ..) rfl ?_; conv => whnf)
      | (refine CALL0.by (c_within ..) rfl ?_; conv => whnf)
      | (refine CALLQ.mk _ _ _ (leL_refl _) (c_within ..) rfl ?_; conv => whnf)
    refine .mk _ _ _ _ _ (leL_refl _) (c_f3 _ _ _ _ _ rfl rfl rfl) rfl ?_
    conv => whnf
    split
    · rename_i h
      have h' : (s.err1 m != 0) = true := h
      conv => whnf
      refine ⟨?_, rfl⟩
      show IV.int .i64 (s.err1 m) = .int .i64 (s.err m)
      unfold Sta.err orE
      rw [h']; rfl
    · rename_i h
      have h' : (s.err1 m != 0) = false := h
      conv => whnf
      refine .mk _ _ _ _ _ ?_ (c_mappedI _ up 3 (by decide) (fun i => [s.p0, s.p1, s.p2].getD i 0) (fun i => withinS ([s.p0, s.p1, s.p2].getD i 0) 0 m.fea) n_control_CheckState_1 2 (fun i hi => c_CheckState1 [] _ up 2 m rfl _)) rfl ?_
      · refine ⟨⟨.inl rfl, rfl, rfl, fun i hi => ?_⟩, leV_refl _, trivial⟩
        match i, hi with
        | 0, _ => rfl
        | 1, _ => rfl
        | 2, _ => rfl
      conv => whnf
      repeat first
        | (refine DRAW.seek ?_; repeat (first | refine TRYD.take ?_ | refine TRYD.next ?_); conv => whnf)
        | (refine HOLD.mk (by first | exact trivial | exact ⟨⟨rfl, rfl⟩, trivial⟩ | exact ⟨⟨rfl, rfl⟩, ⟨rfl, rfl⟩, trivial⟩) ?_; (conv => whnf))
        | (refine CALL0.by (c_within ..) rfl ?_; conv => whnf)
        | (refine CALLQ.mk _ _ _ (leL_refl _) (c_within ..) rfl ?_; conv => whnf)
        | (refine CALL0.by (c_checkBlade ..) rfl ?_; conv => whnf)
        | (refine CALLQ.mk _ _ _ (leL_refl _) (c_checkBlade ..) rfl ?_; conv => whnf)
        | (refine CALL0.by (c_when ..) rfl ?_; conv => whnf)
        | (refine CALLQ.mk _ _ _ (leL_refl _) (c_when ..) rfl ?_; conv => whnf)
      refine .mk _ _ _ _ _ (leL_refl _) (c_f6 _ _ _ _ _ _ _ _ rfl rfl rfl rfl rfl rfl) rfl ?_
      conv => whnf
      refine ⟨?_, rfl⟩
      unfold Sta.err orE
      rw [h']
      show _ = IV.int .i64 (s.err2 m)
      unfold Sta.err2 Sta.fits
      simp only [q1, q2]
      rfl
  | true =>
    cases q2 : s.tor == 0 with
    | false =>
      conv => whnf
      refine DRAW.seek ?_
      repeat (first | refine TRYD.take ?_ | refine TRYD.next ?_)
      conv => whnf
      split
      rotate_left
      · rename_i h
        exact Bool.noConfusion ((q1).symm.trans h)
      rename_i hN
      clear hN
      conv => whnf
      split
      · rename_i h
        exact Bool.noConfusion ((q2).symm.trans h)
      rename_i hN
      clear hN
      conv => whnf
      repeat first
        | (refine DRAW.seek ?_; repeat (first | refine TRYD.take ?_ | refine TRYD.next ?_); conv => whnf)
        | (refine HOLD.mk (by first | exact trivial | exact ⟨⟨rfl, rfl⟩, trivial⟩ | exact ⟨⟨rfl, rfl⟩, ⟨rfl, rfl⟩, trivial⟩) ?_; (conv => whnf))
        | (refine CALL0.by (c_CheckMachine ..) rfl ?_; conv => whnf)
        | (refine CALLQ.mk _ _ _ (leL_refl _) (c_CheckMachine ..) rfl ?_; conv => whnf)
        | (refine CALL0.by (c_when ..) rfl ?_; conv => whnf)
        | (refine CALLQ.mk _ _ _ (leL_refl _) (c_when ..) rfl ?_; conv => whnf)
        | (refine CALL0.by (c_within ..) rfl ?_; conv => whnf)
        | (refine CALLQ.mk _ _ _ (leL_refl _) (c_within ..) rfl ?_; conv => whnf)
      refine .mk _ _ _ _ _ (leL_refl _) (c_f3 _ _ _ _ _ rfl rfl rfl) rfl ?_
      conv => whnf
      split
      · rename_i h
        have h' : (s.err1 m != 0) = true := h
        conv => whnf
        refine ⟨?_, rfl⟩
        show IV.int .i64 (s.err1 m) = .int .i64 (s.err m)
        unfold Sta.err orE
        rw [h']; rfl
      · rename_i h
        have h' : (s.err1 m != 0) = false := h
        conv => whnf
        refine .mk _ _ _ _ _ ?_ (c_mappedI _ up 3 (by decide) (fun i => [s.p0, s.p1, s.p2].getD i 0) (fun i => withinS ([s.p0, s.p1, s.p2].getD i 0) 0 m.fea) n_control_CheckState_1 2 (fun i hi => c_CheckState1 [] _ up 2 m rfl _)) rfl ?_
        · refine ⟨⟨.inl rfl, rfl, rfl, fun i hi => ?_⟩, leV_refl _, trivial⟩
          match i, hi with
          | 0, _ => rfl
          | 1, _ => rfl
          | 2, _ => rfl
        conv => whnf
        repeat first
          | (refine DRAW.seek ?_; repeat (first | refine TRYD.take ?_ | refine TRYD.next ?_); conv => whnf)
          | (refine HOLD.mk (by first | exact trivial | exact ⟨⟨rfl, rfl⟩, trivial⟩ | exact ⟨⟨rfl, rfl⟩, ⟨rfl, rfl⟩, trivial⟩) ?_; (conv => whnf))
          | (refine CALL0.by (c_within ..) rfl ?_; conv => whnf)
          | (refine CALLQ.mk _ _ _ (leL_refl _) (c_within ..) rfl ?_; conv => whnf)
          | (refine CALL0.by (c_checkBlade ..) rfl ?_; conv => whnf)
          | (refine CALLQ.mk _ _ _ (leL_refl _) (c_checkBlade ..) rfl ?_; conv => whnf)
          | (refine CALL0.by (c_when ..) rfl ?_; conv => whnf)
          | (refine CALLQ.mk _ _ _ (leL_refl _) (c_when ..) rfl ?_; conv => whnf)
        refine .mk _ _ _ _ _ (leL_refl _) (c_f6 _ _ _ _ _ _ _ _ rfl rfl rfl rfl rfl rfl) rfl ?_
        conv => whnf
        refine ⟨?_, rfl⟩
        unfold Sta.err orE
        rw [h']
        show _ = IV.int .i64 (s.err2 m)
        unfold Sta.err2 Sta.fits
        simp only [q1, q2]
        rfl
    | true =>
      conv => whnf
      refine DRAW.seek ?_
      repeat (first | refine TRYD.take ?_ | refine TRYD.next ?_)
      conv => whnf
      split
      rotate_left
      · rename_i h
        exact Bool.noConfusion ((q1).symm.trans h)
      rename_i hN
      clear hN
      conv => whnf
      split
      rotate_left
      · rename_i h
        exact Bool.noConfusion ((q2).symm.trans h)
      rename_i hN
      clear hN
      conv => whnf
      repeat first
        | (refine DRAW.seek ?_; repeat (first | refine TRYD.take ?_ | refine TRYD.next ?_); conv => whnf)
        | (refine HOLD.mk (by first | exact trivial | exact ⟨⟨rfl, rfl⟩, trivial⟩ | exact ⟨⟨rfl, rfl⟩, ⟨rfl, rfl⟩, trivial⟩) ?_; (conv => whnf))
        | (refine CALL0.by (c_feathered ..) rfl ?_; conv => whnf)
        | (refine CALLQ.mk _ _ _ (leL_refl _) (c_feathered ..) rfl ?_; conv => whnf)
      repeat first
        | (refine DRAW.seek ?_; repeat (first | refine TRYD.take ?_ | refine TRYD.next ?_); conv => whnf)
        | (refine HOLD.mk (by first | exact trivial | exact ⟨⟨rfl, rfl⟩, trivial⟩ | exact ⟨⟨rfl, rfl⟩, ⟨rfl, rfl⟩, trivial⟩) ?_; (conv => whnf))
        | (refine CALL0.by (c_CheckMachine ..) rfl ?_; conv => whnf)
        | (refine CALLQ.mk _ _ _ (leL_refl _) (c_CheckMachine ..) rfl ?_; conv => whnf)
        | (refine CALL0.by (c_when ..) rfl ?_; conv => whnf)
        | (refine CALLQ.mk _ _ _ (leL_refl _) (c_when ..) rfl ?_; conv => whnf)
        | (refine CALL0.by (c_within ..) rfl ?_; conv => whnf)
        | (refine CALLQ.mk _ _ _ (leL_refl _) (c_within ..) rfl ?_; conv => whnf)
      refine .mk _ _ _ _ _ (leL_refl _) (c_f3 _ _ _ _ _ rfl rfl rfl) rfl ?_
      conv => whnf
      split
      · rename_i h
        have h' : (s.err1 m != 0) = true := h
        conv => whnf
        refine ⟨?_, rfl⟩
        show IV.int .i64 (s.err1 m) = .int .i64 (s.err m)
        unfold Sta.err orE
        rw [h']; rfl
      · rename_i h
        have h' : (s.err1 m != 0) = false := h
        conv => whnf
        refine .mk _ _ _ _ _ ?_ (c_mappedI _ up 3 (by decide) (fun i => [s.p0, s.p1, s.p2].getD i 0) (fun i => withinS ([s.p0, s.p1, s.p2].getD i 0) 0 m.fea) n_control_CheckState_1 2 (fun i hi => c_CheckState1 [] _ up 2 m rfl _)) rfl ?_
        · refine ⟨⟨.inl rfl, rfl, rfl, fun i hi => ?_⟩, leV_refl _, trivial⟩
          match i, hi with
          | 0, _ => rfl
          | 1, _ => rfl
          | 2, _ => rfl
        conv => whnf
        repeat first
          | (refine DRAW.seek ?_; repeat (first | refine TRYD.take ?_ | refine TRYD.next ?_); conv => whnf)
          | (refine HOLD.mk (by first | exact trivial | exact ⟨⟨rfl, rfl⟩, trivial⟩ | exact ⟨⟨rfl, rfl⟩, ⟨rfl, rfl⟩, trivial⟩) ?_; (conv => whnf))
          | (refine CALL0.by (c_within ..) rfl ?_; conv => whnf)
          | (refine CALLQ.mk _ _ _ (leL_refl _) (c_within ..) rfl ?_; conv => whnf)
          | (refine CALL0.by (c_checkBlade ..) rfl ?_; conv => whnf)
          | (refine CALLQ.mk _ _ _ (leL_refl _) (c_checkBlade ..) rfl ?_; conv => whnf)
          | (refine CALL0.by (c_when ..) rfl ?_; conv => whnf)
          | (refine CALLQ.mk _ _ _ (leL_refl _) (c_when ..) rfl ?_; conv => whnf)
        refine .mk _ _ _ _ _ (leL_refl _) (c_f6 _ _ _ _ _ _ _ _ rfl rfl rfl rfl rfl rfl) rfl ?_
        conv => whnf
        refine ⟨?_, rfl⟩
        unfold Sta.err orE
        rw [h']
        show _ = IV.int .i64 (s.err2 m)
        unfold Sta.err2 Sta.fits
        simp only [q1, q2]
        rfl
end Go.Proofs.YtkdlegfakefjgaaGreatDoor.Ix

namespace Go.Proofs.YtkdlegfakefjgaaGreatDoor.Ix
open Go.Proofs
set_option maxRecDepth 100000
set_option linter.unusedVariables false
set_option linter.unusedSimpArgs false
variable {gl : Nat → IV}
theorem c_begin (up : List Ces) (m : Mc) : Cs gl n_control_begin up [m.iv] (Sta.iv ⟨sIdle, 0, m.fea, m.fea, m.fea, 0, -1⟩) up := by
  refine mk h_control_begin rfl rfl ?_
  conv => whnf
  exact ⟨rfl, rfl⟩
def mvW (m : Mc) (a p : Int) : Int := maxW (w64 (p - m.rate)) (minW (w64 (p + m.rate)) a)
def Sta.movedW (s : Sta) (m : Mc) (a stuck : Int) : Sta :=
  ⟨s.mode, s.speed, bif (0 : Int) != stuck then mvW m a s.p0 else s.p0, bif (1 : Int) != stuck then mvW m a s.p1 else s.p1, bif (2 : Int) != stuck then mvW m a s.p2 else s.p2, s.tor, bif stuck != -1 then stuck else s.stuck⟩
set_option maxHeartbeats 8000000 in
theorem c_moved (up : List Ces) (m : Mc) (s : Sta) (a stuck : Int) : Cs gl n_control_State_moved up [s.iv, m.iv, .int .i64 a, .int .i64 stuck] (s.movedW m a stuck).iv up := by
  refine mk h_control_State_moved rfl rfl ?_
  conv => whnf
  refine .mk (α := {k : Nat // k ≤ 3}) (fun k => ⟨[(10, .int .i64 k.1), (2, .int .i64 a), (3, .int .i64 stuck), (4, .ptr 0 4 0), (5, .ptr 0 5 0), (8, .ptr 0 8 0)],
    [(8, [.str ByteArray.empty, .int .i64 0, .int .i64 0, .int .i64 0, .int .i64 0, .int .i64 0, .int .i64 0]), (5, m.cs),
     (4, [.str s.mode, .int .i64 s.speed, .int .i64 (bif decide (0 < k.1) && (0 : Int) != stuck then mvW m a s.p0 else s.p0), .int .i64 (bif decide (1 < k.1) && (1 : Int) != stuck then mvW m a s.p1 else s.p1), .int .i64 (bif decide (2 < k.1) && (2 : Int) != stuck then mvW m a s.p2 else s.p2), .int .i64 s.tor, .int .i64 s.stuck])], up⟩) (fun k => 3 - k.1) ⟨0, Nat.zero_le _⟩ ⟨?_, ?_, rfl, rfl⟩ ?_
  · exact ⟨leV_refl _, leV_refl _, leV_refl _, leV_refl _, leV_refl _, leV_refl _, trivial⟩
  · exact ⟨leL_refl _, leL_refl _, leL_refl _, trivial⟩
  rintro ⟨k, hk⟩
  obtain rfl | rfl | rfl | rfl : k = 0 ∨ k = 1 ∨ k = 2 ∨ k = 3 := by omega
  · cases q : ((0 : Int) != stuck) with
    | true =>
      conv => whnf
      split
      rotate_left
      · rename_i h
        exact Bool.noConfusion ((q).symm.trans h)
      rename_i hN
      clear hN
      conv => whnf
      refine DRAW.seek ?_
      repeat (first | refine TRYD.take ?_ | refine TRYD.next ?_)
      conv => whnf
      exact ⟨⟨1, by omega⟩, ⟨⟨leV_refl _, leV_refl _, leV_refl _, leV_refl _, leV_refl _, leV_refl _, trivial⟩, ⟨leL_refl _, leL_refl _, ⟨leV_refl _, leV_refl _, leV_int rfl, leV_refl _, leV_refl _, leV_refl _, leV_refl _, trivial⟩, trivial⟩, rfl, rfl⟩, by simp⟩
    | false =>
      conv => whnf
      split
      · rename_i h
        exact Bool.noConfusion ((q).symm.trans h)
      rename_i hN
      clear hN
      conv => whnf
      exact ⟨⟨1, by omega⟩, ⟨⟨leV_refl _, leV_refl _, leV_refl _, leV_refl _, leV_refl _, leV_refl _, trivial⟩, ⟨leL_refl _, leL_refl _, ⟨leV_refl _, leV_refl _, leV_int rfl, leV_refl _, leV_refl _, leV_refl _, leV_refl _, trivial⟩, trivial⟩, rfl, rfl⟩, by simp⟩
  · cases q : ((1 : Int) != stuck) with
    | true =>
      conv => whnf
      split
      rotate_left
      · rename_i h
        exact Bool.noConfusion ((q).symm.trans h)
      rename_i hN
      clear hN
      conv => whnf
      refine DRAW.seek ?_
      repeat (first | refine TRYD.take ?_ | refine TRYD.next ?_)
      conv => whnf
      exact ⟨⟨2, by omega⟩, ⟨⟨leV_refl _, leV_refl _, leV_refl _, leV_refl _, leV_refl _, leV_refl _, trivial⟩, ⟨leL_refl _, leL_refl _, ⟨leV_refl _, leV_refl _, leV_refl _, leV_int rfl, leV_refl _, leV_refl _, leV_refl _, trivial⟩, trivial⟩, rfl, rfl⟩, by simp⟩
    | false =>
      conv => whnf
      split
      · rename_i h
        exact Bool.noConfusion ((q).symm.trans h)
      rename_i hN
      clear hN
      conv => whnf
      exact ⟨⟨2, by omega⟩, ⟨⟨leV_refl _, leV_refl _, leV_refl _, leV_refl _, leV_refl _, leV_refl _, trivial⟩, ⟨leL_refl _, leL_refl _, ⟨leV_refl _, leV_refl _, leV_refl _, leV_int rfl, leV_refl _, leV_refl _, leV_refl _, trivial⟩, trivial⟩, rfl, rfl⟩, by simp⟩
  · cases q : ((2 : Int) != stuck) with
    | true =>
      conv => whnf
      split
      rotate_left
      · rename_i h
        exact Bool.noConfusion ((q).symm.trans h)
      rename_i hN
      clear hN
      conv => whnf
      refine DRAW.seek ?_
      repeat (first | refine TRYD.take ?_ | refine TRYD.next ?_)
      conv => whnf
      exact ⟨⟨3, by omega⟩, ⟨⟨leV_refl _, leV_refl _, leV_refl _, leV_refl _, leV_refl _, leV_refl _, trivial⟩, ⟨leL_refl _, leL_refl _, ⟨leV_refl _, leV_refl _, leV_refl _, leV_refl _, leV_int rfl, leV_refl _, leV_refl _, trivial⟩, trivial⟩, rfl, rfl⟩, by simp⟩
    | false =>
      conv => whnf
      split
      · rename_i h
        exact Bool.noConfusion ((q).symm.trans h)
      rename_i hN
      clear hN
      conv => whnf
      exact ⟨⟨3, by omega⟩, ⟨⟨leV_refl _, leV_refl _, leV_refl _, leV_refl _, leV_refl _, leV_refl _, trivial⟩, ⟨leL_refl _, leL_refl _, ⟨leV_refl _, leV_refl _, leV_refl _, leV_refl _, leV_int rfl, leV_refl _, leV_refl _, trivial⟩, trivial⟩, rfl, rfl⟩, by simp⟩
  · cases q : (stuck != -1) with
    | true =>
      conv => whnf
      split
      rotate_left
      · rename_i h
        exact Bool.noConfusion ((q).symm.trans h)
      rename_i hN
      clear hN
      conv => whnf
      refine ⟨?_, rfl⟩
      unfold Sta.movedW Sta.iv
      rw [q]; rfl
    | false =>
      conv => whnf
      split
      · rename_i h
        exact Bool.noConfusion ((q).symm.trans h)
      rename_i hN
      clear hN
      conv => whnf
      refine ⟨?_, rfl⟩
      unfold Sta.movedW Sta.iv
      rw [q]; rfl
def Sta.laterW (s : Sta) (wind : Int) : Sta := { s with speed := maxW 0 (w64 (w64 (w64 (w64 (s.speed + w64 (wind - s.tor)) - s.p0) - s.p1) - s.p2)) }
theorem c_later (up : List Ces) (s : Sta) (wind : Int) : Cs gl n_control_State_later up [s.iv, .int .i64 wind] (s.laterW wind).iv up := by
  refine mk h_control_State_later rfl rfl ?_
  conv => whnf
  refine .mk (α := {k : Nat // k ≤ 3}) (fun k => ⟨[(17, .int .i64 k.1), (16, .agg [.int .i64 s.p0, .int .i64 s.p1, .int .i64 s.p2]), (2, .ptr 0 2 0), (4, .ptr 0 4 0)],
    [(4, [.str ByteArray.empty, .int .i64 0, .int .i64 0, .int .i64 0, .int .i64 0, .int .i64 0, .int .i64 0]),
     (2, [.str s.mode, .int .i64 ([s.p0, s.p1, s.p2].take k.1 |>.foldl (fun a p => w64 (a - p)) (w64 (s.speed + w64 (wind - s.tor)))), .int .i64 s.p0, .int .i64 s.p1, .int .i64 s.p2, .int .i64 s.tor, .int .i64 s.stuck])], up⟩) (fun k => 3 - k.1) ⟨0, Nat.zero_le _⟩ ⟨?_, ?_, rfl, rfl⟩ ?_
  · exact ⟨leV_refl _, leV_refl _, leV_refl _, leV_refl _, trivial⟩
  · exact ⟨leL_refl _, leL_refl _, trivial⟩
  rintro ⟨k, hk⟩
  obtain rfl | rfl | rfl | rfl : k = 0 ∨ k = 1 ∨ k = 2 ∨ k = 3 := by omega
  · conv => whnf
    exact ⟨⟨1, by omega⟩, ⟨⟨leV_refl _, leV_refl _, leV_refl _, leV_refl _, trivial⟩, ⟨leL_refl _, ⟨leV_refl _, leV_int rfl, leV_refl _, leV_refl _, leV_refl _, leV_refl _, leV_refl _, trivial⟩, trivial⟩, rfl, rfl⟩, by simp⟩
  · conv => whnf
    exact ⟨⟨2, by omega⟩, ⟨⟨leV_refl _, leV_refl _, leV_refl _, leV_refl _, trivial⟩, ⟨leL_refl _, ⟨leV_refl _, leV_int rfl, leV_refl _, leV_refl _, leV_refl _, leV_refl _, leV_refl _, trivial⟩, trivial⟩, rfl, rfl⟩, by simp⟩
  · conv => whnf
    exact ⟨⟨3, by omega⟩, ⟨⟨leV_refl _, leV_refl _, leV_refl _, leV_refl _, trivial⟩, ⟨leL_refl _, ⟨leV_refl _, leV_int rfl, leV_refl _, leV_refl _, leV_refl _, leV_refl _, leV_refl _, trivial⟩, trivial⟩, rfl, rfl⟩, by simp⟩
  · conv => whnf
    exact ⟨rfl, rfl⟩
def Sta.brakedW (s : Sta) (m : Mc) (wind stuck : Int) : Sta := (Sta.movedW { s with mode := sStop, tor := 0 } m m.fea stuck).laterW wind
theorem c_braked (up : List Ces) (m : Mc) (s : Sta) (wind stuck : Int) : Cs gl n_control_State_braked up [s.iv, m.iv, .int .i64 wind, .int .i64 stuck] (s.brakedW m wind stuck).iv up := by
  refine mk h_control_State_braked rfl rfl ?_
  conv => whnf
  refine .mk _ _ _ _ _ (leL_refl _) (c_moved _ m { s with mode := sStop, tor := 0 } m.fea stuck) rfl ?_
  conv => whnf
  refine .mk _ _ _ _ _ (leL_refl _) (c_later _ (Sta.movedW { s with mode := sStop, tor := 0 } m m.fea stuck) wind) rfl ?_
  conv => whnf
  exact ⟨rfl, rfl⟩
def Sta.restB (s : Sta) (m : Mc) (stuck : Int) : Bool :=
  bif s.speed == 0 then (s.p0 == (if stuck = 0 then s.p0 else m.fea) && (s.p1 == (if stuck = 1 then s.p1 else m.fea) && (s.p2 == (if stuck = 2 then s.p2 else m.fea) && true))) else false
theorem c_resting (up : List Ces) (m : Mc) (s : Sta) (stuck : Int) (h1 : -1 ≤ stuck) (h2 : stuck ≤ 2) : Cs gl n_control_State_resting up [s.iv, m.iv, .int .i64 stuck] (.bool (s.restB m stuck)) up := by
  refine mk h_control_State_resting rfl rfl ?_
  cases q : s.speed == 0 with
  | true =>
    obtain rfl | rfl | rfl | rfl : stuck = -1 ∨ stuck = 0 ∨ stuck = 1 ∨ stuck = 2 := by omega
    · conv => whnf
      split
      rotate_left
      · rename_i h
        exact Bool.noConfusion ((q).symm.trans h)
      rename_i hN
      clear hN
      conv => whnf
      refine ⟨?_, rfl⟩
      unfold Sta.restB
      rw [q]; rfl
    · conv => whnf
      split
      rotate_left
      · rename_i h
        exact Bool.noConfusion ((q).symm.trans h)
      rename_i hN
      clear hN
      conv => whnf
      refine ⟨?_, rfl⟩
      unfold Sta.restB
      rw [q]; rfl
    · conv => whnf
      split
      rotate_left
      · rename_i h
        exact Bool.noConfusion ((q).symm.trans h)
      rename_i hN
      clear hN
      conv => whnf
      refine ⟨?_, rfl⟩
      unfold Sta.restB
      rw [q]; rfl
    · conv => whnf
      split
      rotate_left
      · rename_i h
        exact Bool.noConfusion ((q).symm.trans h)
      rename_i hN
      clear hN
      conv => whnf
      refine ⟨?_, rfl⟩
      unfold Sta.restB
      rw [q]; rfl
  | false =>
    obtain rfl | rfl | rfl | rfl : stuck = -1 ∨ stuck = 0 ∨ stuck = 1 ∨ stuck = 2 := by omega
    · conv => whnf
      split
      · rename_i h
        exact Bool.noConfusion ((q).symm.trans h)
      rename_i hN
      clear hN
      conv => whnf
      refine ⟨?_, rfl⟩
      unfold Sta.restB
      rw [q]; rfl
    · conv => whnf
      split
      · rename_i h
        exact Bool.noConfusion ((q).symm.trans h)
      rename_i hN
      clear hN
      conv => whnf
      refine ⟨?_, rfl⟩
      unfold Sta.restB
      rw [q]; rfl
    · conv => whnf
      split
      · rename_i h
        exact Bool.noConfusion ((q).symm.trans h)
      rename_i hN
      clear hN
      conv => whnf
      refine ⟨?_, rfl⟩
      unfold Sta.restB
      rw [q]; rfl
    · conv => whnf
      split
      · rename_i h
        exact Bool.noConfusion ((q).symm.trans h)
      rename_i hN
      clear hN
      conv => whnf
      refine ⟨?_, rfl⟩
      unfold Sta.restB
      rw [q]; rfl
end Go.Proofs.YtkdlegfakefjgaaGreatDoor.Ix

namespace Go.Proofs.YtkdlegfakefjgaaGreatDoor.Ix
open Go.Proofs
set_option maxRecDepth 100000
set_option linter.unusedVariables false
set_option linter.unusedSimpArgs false
variable {gl : Nat → IV}
def Sta.cs (s : Sta) : List IV := [.str s.mode, .int .i64 s.speed, .int .i64 s.p0, .int .i64 s.p1, .int .i64 s.p2, .int .i64 s.tor, .int .i64 s.stuck]
def Sta.stepW (s : Sta) (m : Mc) (stuck : Int) : Nat → Sta
  | 0 => s
  | k + 1 => (s.stepW m stuck k).brakedW m m.wind stuck
def Sta.takes (s : Sta) (m : Mc) (stuck : Int) (n : Nat) : Prop := (∀ k, k < n → (s.stepW m stuck k).restB m stuck = false) ∧ (s.stepW m stuck n).restB m stuck = true
noncomputable abbrev CsL (gl : Nat → IV) : Con := ⟨fun g up args r up' => Cs gl g up args r up' ∧ up'.length = up.length, CompO prog gl, VisO prog gl⟩
def stepsC (s : Sta) (m : Mc) (stuck : Int) : List IV := [.vptr 7 1 (fun _ => s.cs) 0 0, .vptr 7 1 (fun _ => m.cs) 0 0, .vptr 1 1 (fun _ => [.int .i64 stuck]) 0 0]
set_option maxHeartbeats 8000000 in
theorem steps_ivis (s : Sta) (m : Mc) (stuck : Int) (h1 : -1 ≤ stuck) (h2 : stuck ≤ 2) (n : Nat) (hn : s.takes m stuck n) :
    ivis (CsL gl) (Γs gl) f_control_State_steps_1 (stepsC s m stuck) n (fun k => [(s.stepW m stuck (k + 1)).iv]) := by
  conv => whnf
  intro l
  conv => whnf
  refine .mk (α := {i : Nat // i ≤ n}) (fun i => ⟨[(5, .ptr 0 5 0), (3, .vptr 1 1 (fun _ => [.int .i64 stuck]) 0 0), (2, .vptr 7 1 (fun _ => m.cs) 0 0), (1, .vptr 7 1 (fun _ => s.cs) 0 0), (0, .lit (.func (.yield l) #[] #[]))],
    [(5, (s.stepW m stuck i.1).cs)], List.replicate i.1 []⟩) (fun i => n - i.1) ⟨0, Nat.zero_le _⟩ ⟨?_, ?_, rfl, rfl⟩ ?_
  · exact ⟨leV_refl _, leV_refl _, leV_refl _, leV_refl _, leV_refl _, trivial⟩
  · exact ⟨leL_refl _, trivial⟩
  rintro ⟨i, hi⟩
  have hr := fun up => c_resting (gl := gl) up m (s.stepW m stuck i) stuck h1 h2
  have hb := fun up => c_braked (gl := gl) up m (s.stepW m stuck i) m.wind stuck
  by_cases hlt : i < n
  · have q := hn.1 i hlt
    rw [q] at hr
    conv => whnf
    refine .mk _ _ _ _ _ (leL_refl _) ⟨hr _, rfl⟩ rfl ?_
    conv => whnf
    refine .mk _ _ _ _ _ (leL_refl _) ⟨hb _, rfl⟩ rfl ?_
    conv => whnf
    refine .mk rfl (by simp) (by simpa using hlt) (by simp; rfl) rfl ?_
    intro bb
    cases bb
    · conv => whnf
      show n ≤ (List.replicate (n + 1) [] ++ List.replicate i []).length
      simp; omega
    · conv => whnf
      exact ⟨⟨i + 1, hlt⟩, ⟨⟨leV_refl _, leV_refl _, leV_refl _, leV_refl _, leV_refl _, trivial⟩, ⟨leL_refl _, trivial⟩, rfl, rfl⟩, (by show n - (i + 1) < n - i; omega)⟩
  · have : i = n := by omega
    subst this
    rw [hn.2] at hr
    conv => whnf
    refine .mk _ _ _ _ _ (leL_refl _) ⟨hr _, rfl⟩ rfl ?_
    conv => whnf
    show i ≤ (List.replicate i []).length
    simp
theorem v_steps (s : Sta) (m : Mc) (stuck : Int) (h1 : -1 ≤ stuck) (h2 : stuck ≤ 2) (n : Nat) (hn : s.takes m stuck n) : Vis prog gl n_control_State_steps_1 (stepsC s m stuck) n (fun k => [(s.stepW m stuck (k + 1)).iv]) :=
  vis_of_body (Γ := Γs gl) (C := CsL gl) tok0 ⟨fun _ _ _ _ _ h => h.1, fun _ _ _ _ h => h⟩ (fun _ _ _ _ _ h => h.2) h_control_State_steps_1 rfl rfl (by kernel_rfl) (by kernel_rfl) (steps_ivis s m stuck h1 h2 n hn)
theorem c_steps (up : List Ces) (s : Sta) (m : Mc) (stuck : Int) : Cs gl n_control_State_steps up [s.iv, m.iv, .int .i64 stuck] (.fn n_control_State_steps_1 [] (stepsC s m stuck)) up := by
  refine mk h_control_State_steps rfl rfl ?_
  conv => whnf
  exact ⟨rfl, rfl⟩
def Sta.most (s : Sta) (m : Mc) (stuck : Int) : Nat → Int
  | 0 => s.speed
  | k + 1 => maxW (s.most m stuck k) (s.stepW m stuck (k + 1)).speed
set_option maxHeartbeats 8000000 in
theorem c_peak (up : List Ces) (s : Sta) (m : Mc) (stuck : Int) (h1 : -1 ≤ stuck) (h2 : stuck ≤ 2) (n : Nat) (hn : s.takes m stuck n) (hn2 : n ≤ 1000000) :
    Cs gl n_control_State_peak up [s.iv, m.iv, .int .i64 stuck] (.tup [.int .i64 (s.most m stuck n), .int .i64 n]) up := by
  refine mk h_control_State_peak rfl rfl ?_
  conv => whnf
  refine .mk _ _ _ _ _ (leL_refl _) (c_steps _ _ _ _) rfl ?_
  conv => whnf
  refine .mk n_control_State_steps_1 _ n (fun k => [(s.stepW m stuck (k + 1)).iv]) rfl rfl (v_steps s m stuck h1 h2 n hn) (by kernel_rfl) (fun _ _ => rfl)
    (α := {k : Nat // k ≤ n}) (fun k => ⟨[(8, .ptr 0 8 0), (9, .ptr 0 9 0)], [(9, [.int .i64 k.1]), (8, [.int .i64 (s.most m stuck k.1)])], up⟩) (fun k => k.1) ⟨0, Nat.zero_le _⟩ ⟨?_, ?_, rfl, rfl⟩ rfl (fun _ => rfl) ?_ ?_
  · exact ⟨leV_refl _, leV_refl _, trivial⟩
  · exact ⟨leL_refl _, leL_refl _, trivial⟩
  · rintro ⟨k, hk⟩ hlt
    replace hlt : k < n := hlt
    have hw : w64 ((k : Int) + 1) = ((k + 1 : Nat) : Int) := by rw [w64, wrap_in] <;> omega
    conv => whnf
    exact ⟨⟨k + 1, hlt⟩, rfl, ⟨⟨leV_refl _, leV_refl _, trivial⟩, ⟨⟨leV_int hw, trivial⟩, ⟨leV_int rfl, trivial⟩, trivial⟩, rfl, rfl⟩⟩
  · rintro ⟨k, hk⟩ heq
    have : k = n := heq
    subst this
    conv => whnf
    refine DRAW.mkH 2 [8, 9] [1] [] (by decide +kernel) ?_
    conv => whnf
    repeat first
      | (refine DRAW.seek ?_; repeat (first | refine TRYD.take ?_ | refine TRYD.next ?_); conv => whnf)
      | (refine HOLD.mk (by first | exact trivial | exact ⟨⟨rfl, rfl⟩, trivial⟩ | exact ⟨⟨rfl, rfl⟩, ⟨rfl, rfl⟩, trivial⟩) ?_; (conv => whnf))
    exact ⟨rfl, rfl⟩
end Go.Proofs.YtkdlegfakefjgaaGreatDoor.Ix

namespace Go.Proofs.YtkdlegfakefjgaaGreatDoor.Ix
open Go.Proofs
set_option maxRecDepth 100000
set_option linter.unusedVariables false
set_option linter.unusedSimpArgs false
variable {gl : Nat → IV}
set_option maxHeartbeats 8000000 in
theorem c_AppendSeq (up : List Ces) (s : Sta) (m : Mc) (stuck : Int) (h1 : -1 ≤ stuck) (h2 : stuck ≤ 2) (n : Nat) (hn : s.takes m stuck n) (hn2 : n ≤ 1000000) :
    Cs gl n_slices_AppendSeq_control_State_control_State up [.nilS, .fn n_control_State_steps_1 [] (stepsC s m stuck)] (.lst (some 11) 7 n fun k => (s.stepW m stuck (k + 1)).cs) up := by
  refine mk h_slices_AppendSeq_control_State_control_State rfl rfl ?_
  conv => whnf
  let F : Nat → List IV := fun k => (s.stepW m stuck (k + 1)).cs
  refine .mk n_control_State_steps_1 _ n (fun k => [(s.stepW m stuck (k + 1)).iv]) rfl rfl (v_steps s m stuck h1 h2 n hn) (by kernel_rfl) (fun _ _ => rfl)
    (α := {k : Nat // k ≤ n}) (fun k => ⟨[(2, .ptr 0 2 0)], [(2, [.lst (some 11) 7 k.1 F])], up⟩) (fun k => k.1) ⟨0, Nat.zero_le _⟩ ⟨?_, ?_, rfl, rfl⟩ rfl (fun _ => rfl) ?_ ?_
  · exact ⟨leV_refl _, trivial⟩
  · exact ⟨⟨rfl, trivial⟩, trivial⟩
  · rintro ⟨k, hk⟩ hlt
    replace hlt : k < n := hlt
    conv => whnf
    split
    rotate_left
    · rename_i h
      have h' : decide (k + 1 ≤ 1073741824) = false := h
      simp at h' <;> omega
    conv => whnf
    refine ⟨⟨k + 1, hlt⟩, rfl, ⟨⟨leV_refl _, trivial⟩, ⟨⟨⟨.inr rfl, rfl, rfl, fun j hj => ?_⟩, trivial⟩, trivial⟩, rfl, rfl⟩⟩
    show (if j < k then F j else litF 7 (F k) (j - k)) = F j
    split
    · rfl
    · have : j = k := by have : j < k + 1 := hj; omega
      subst this
      rw [Nat.sub_self]
      rfl
  · rintro ⟨k, hk⟩ heq
    have : k = n := heq
    subst this
    conv => whnf
    exact ⟨rfl, rfl⟩
theorem c_Collect (up : List Ces) (s : Sta) (m : Mc) (stuck : Int) (h1 : -1 ≤ stuck) (h2 : stuck ≤ 2) (n : Nat) (hn : s.takes m stuck n) (hn2 : n ≤ 1000000) :
    Cs gl n_slices_Collect_control_State up [.fn n_control_State_steps_1 [] (stepsC s m stuck)] (.lst (some 4) 7 n fun k => (s.stepW m stuck (k + 1)).cs) up := by
  refine mk h_slices_Collect_control_State rfl rfl ?_
  conv => whnf
  refine .mk _ _ _ _ _ (leL_refl _) (c_AppendSeq _ s m stuck h1 h2 n hn hn2) rfl ?_
  conv => whnf
  exact ⟨rfl, rfl⟩
def Sta.here (s : Sta) (stuck : Int) : Sta := ⟨sStop, s.speed, s.p0, s.p1, s.p2, 0, bif stuck != -1 then stuck else s.stuck⟩
def Sta.stopF (s : Sta) (m : Mc) (stuck : Int) : Nat → List IV
  | 0 => (s.here stuck).cs
  | k + 1 => (s.stepW m stuck (k + 1)).cs
def Sta.stopR (s : Sta) (m : Mc) (stuck : Int) (n : Nat) : IV :=
  bif decide (s.most m stuck n > m.lim) then .tup [.nilS, .bool false] else .tup [.lst (some 36) 7 (1 + n) (s.stopF m stuck), .bool true]
set_option maxHeartbeats 8000000 in
theorem c_stop (up : List Ces) (s : Sta) (m : Mc) (stuck : Int) (h1 : -1 ≤ stuck) (h2 : stuck ≤ 2) (n : Nat) (hn : s.takes m stuck n) (hn2 : n ≤ 1000000) :
    Cs gl n_control_State_stop up [s.iv, m.iv, .int .i64 stuck] (s.stopR m stuck n) up := by
  refine mk h_control_State_stop rfl rfl ?_
  have hp := fun up => c_peak (gl := gl) up s m stuck h1 h2 n hn hn2
  have hs := fun up => c_steps (gl := gl) up s m stuck
  have hc := fun up => c_Collect (gl := gl) up s m stuck h1 h2 n hn hn2
  unfold Sta.stopR
  cases q : decide (s.most m stuck n > m.lim) with
  | true =>
    conv => whnf
    repeat first
      | (refine DRAW.seek ?_; repeat (first | refine TRYD.take ?_ | refine TRYD.next ?_); conv => whnf)
      | (refine HOLD.mk (by first | exact trivial | exact ⟨⟨rfl, rfl⟩, trivial⟩ | exact ⟨⟨rfl, rfl⟩, ⟨rfl, rfl⟩, trivial⟩) ?_; (conv => whnf))
      | (refine CALL0.by (hp ..) rfl ?_; conv => whnf)
      | (refine CALLQ.mk _ _ _ (leL_refl _) (hp ..) rfl ?_; conv => whnf)
    split
    rotate_left
    · rename_i h
      exact Bool.noConfusion ((q).symm.trans h)
    rename_i hN
    clear hN
    conv => whnf
    exact ⟨rfl, rfl⟩
  | false =>
    cases q2 : (stuck != -1) with
    | true =>
      conv => whnf
      repeat first
        | (refine DRAW.seek ?_; repeat (first | refine TRYD.take ?_ | refine TRYD.next ?_); conv => whnf)
        | (refine HOLD.mk (by first | exact trivial | exact ⟨⟨rfl, rfl⟩, trivial⟩ | exact ⟨⟨rfl, rfl⟩, ⟨rfl, rfl⟩, trivial⟩) ?_; (conv => whnf))
        | (refine CALL0.by (hp ..) rfl ?_; conv => whnf)
        | (refine CALLQ.mk _ _ _ (leL_refl _) (hp ..) rfl ?_; conv => whnf)
      split
      · rename_i h
        exact Bool.noConfusion ((q).symm.trans h)
      rename_i hN
      clear hN
      conv => whnf
      split
      rotate_left
      · rename_i h
        exact Bool.noConfusion ((q2).symm.trans h)
      rename_i hN
      clear hN
      conv => whnf
      repeat first
        | (refine DRAW.seek ?_; repeat (first | refine TRYD.take ?_ | refine TRYD.next ?_); conv => whnf)
        | (refine HOLD.mk (by first | exact trivial | exact ⟨⟨rfl, rfl⟩, trivial⟩ | exact ⟨⟨rfl, rfl⟩, ⟨rfl, rfl⟩, trivial⟩) ?_; (conv => whnf))
        | (refine CALL0.by (hs ..) rfl ?_; conv => whnf)
        | (refine CALLQ.mk _ _ _ (leL_refl _) (hs ..) rfl ?_; conv => whnf)
        | (refine CALL0.by (hc ..) rfl ?_; conv => whnf)
        | (refine CALLQ.mk _ _ _ (leL_refl _) (hc ..) rfl ?_; conv => whnf)
      split
      rotate_left
      · rename_i h
        have h' : decide (1 + n ≤ 1073741824) = false := h
        simp at h' <;> omega
      conv => whnf
      refine ⟨congrArg (fun F => IV.tup [.lst (some 36) 7 (1 + n) F, .bool true]) (funext fun i => ?_), rfl⟩
      cases i with
      | zero =>
        show _ = (s.here stuck).cs
        unfold Sta.here Sta.cs
        rw [q2]; rfl
      | succ i => rfl
    | false =>
      conv => whnf
      repeat first
        | (refine DRAW.seek ?_; repeat (first | refine TRYD.take ?_ | refine TRYD.next ?_); conv => whnf)
        | (refine HOLD.mk (by first | exact trivial | exact ⟨⟨rfl, rfl⟩, trivial⟩ | exact ⟨⟨rfl, rfl⟩, ⟨rfl, rfl⟩, trivial⟩) ?_; (conv => whnf))
        | (refine CALL0.by (hp ..) rfl ?_; conv => whnf)
        | (refine CALLQ.mk _ _ _ (leL_refl _) (hp ..) rfl ?_; conv => whnf)
      split
      · rename_i h
        exact Bool.noConfusion ((q).symm.trans h)
      rename_i hN
      clear hN
      conv => whnf
      split
      · rename_i h
        exact Bool.noConfusion ((q2).symm.trans h)
      rename_i hN
      clear hN
      conv => whnf
      repeat first
        | (refine DRAW.seek ?_; repeat (first | refine TRYD.take ?_ | refine TRYD.next ?_); conv => whnf)
        | (refine HOLD.mk (by first | exact trivial | exact ⟨⟨rfl, rfl⟩, trivial⟩ | exact ⟨⟨rfl, rfl⟩, ⟨rfl, rfl⟩, trivial⟩) ?_; (conv => whnf))
        | (refine CALL0.by (hs ..) rfl ?_; conv => whnf)
        | (refine CALLQ.mk _ _ _ (leL_refl _) (hs ..) rfl ?_; conv => whnf)
        | (refine CALL0.by (hc ..) rfl ?_; conv => whnf)
        | (refine CALLQ.mk _ _ _ (leL_refl _) (hc ..) rfl ?_; conv => whnf)
      split
      rotate_left
      · rename_i h
        have h' : decide (1 + n ≤ 1073741824) = false := h
        simp at h' <;> omega
      conv => whnf
      refine ⟨congrArg (fun F => IV.tup [.lst (some 36) 7 (1 + n) F, .bool true]) (funext fun i => ?_), rfl⟩
      cases i with
      | zero =>
        show _ = (s.here stuck).cs
        unfold Sta.here Sta.cs
        rw [q2]; rfl
      | succ i => rfl
def Sta.safeAt (s : Sta) (m : Mc) (N : Nat → Nat) (k : Nat) : Bool := ((s.stuck != -1) && (s.stuck != (k : Int))) || decide (s.most m k (N k) ≤ m.lim)
def Sta.safeB (s : Sta) (m : Mc) (N : Nat → Nat) : Bool := s.safeAt m N 0 && s.safeAt m N 1 && s.safeAt m N 2
set_option maxHeartbeats 8000000 in
theorem c_safe (up : List Ces) (s : Sta) (m : Mc) (N : Nat → Nat) (hn : ∀ k, k < 3 → s.takes m (k : Nat) (N k) ∧ N k ≤ 1000000) :
    Cs gl n_control_State_safe up [s.iv, m.iv] (.bool (s.safeB m N)) up := by
  refine mk h_control_State_safe rfl rfl ?_
  have hp := fun up (k : Nat) (hk : k < 3) => c_peak (gl := gl) up s m k (by omega) (by omega) (N k) (hn k hk).1 (hn k hk).2
  have hall : s.safeB m N = true ↔ ∀ k, k < 3 → s.safeAt m N k = true := by
    unfold Sta.safeB
    simp only [Bool.and_eq_true]
    constructor
    · rintro ⟨⟨a, b⟩, c⟩ k hk
      obtain rfl | rfl | rfl : k = 0 ∨ k = 1 ∨ k = 2 := by omega
      · exact a
      · exact b
      · exact c
    · intro h
      exact ⟨⟨h 0 (by omega), h 1 (by omega)⟩, h 2 (by omega)⟩
  conv => whnf
  refine .mk (α := {k : Nat // k ≤ 3 ∧ ∀ i, i < k → s.safeAt m N i = true}) (fun k => ⟨[(8, .int .i64 k.1), (2, .ptr 0 2 0), (3, .ptr 0 3 0)], [(3, m.cs), (2, s.cs)], up⟩) (fun k => 3 - k.1) ⟨0, Nat.zero_le _, fun i hi => by omega⟩ ⟨?_, ?_, rfl, rfl⟩ ?_
  · exact ⟨leV_refl _, leV_refl _, leV_refl _, trivial⟩
  · exact ⟨leL_refl _, leL_refl _, trivial⟩
  rintro ⟨k, hk, hb⟩
  by_cases hk3 : k = 3
  · subst hk3
    have e := hall.2 hb
    rw [e]
    conv => whnf
    exact ⟨rfl, rfl⟩
  have q : decide ((k : Int) < 3) = true := decide_eq_true (by omega)
  have hw : w64 ((k : Int) + 1) = ((k + 1 : Nat) : Int) := by rw [w64, wrap_in] <;> omega
  have hpk := fun up => hp up k (by omega)
  have next : s.safeAt m N k = true → ∀ i, i < k + 1 → s.safeAt m N i = true := fun h i hi => by
    by_cases e : i = k
    · subst e; exact h
    · exact hb i (by omega)
  cases q1 : (s.stuck != -1 && s.stuck != (k : Int)) with
  | true =>
    have hs : s.safeAt m N k = true := by unfold Sta.safeAt; rw [q1]; rfl
    rw [Bool.and_eq_true] at q1
    conv => whnf
    split
    rotate_left
    · rename_i h
      exact Bool.noConfusion ((q).symm.trans h)
    rename_i hN
    clear hN
    conv => whnf
    split
    rotate_left
    · rename_i h
      exact Bool.noConfusion ((q1.1).symm.trans h)
    rename_i hN
    clear hN
    conv => whnf
    split
    rotate_left
    · rename_i h
      exact Bool.noConfusion ((q1.2).symm.trans h)
    rename_i hN
    clear hN
    conv => whnf
    exact ⟨⟨k + 1, by omega, next hs⟩, ⟨⟨leV_int hw, leV_refl _, leV_refl _, trivial⟩, ⟨leL_refl _, leL_refl _, trivial⟩, rfl, rfl⟩, (by show 3 - (k + 1) < 3 - k; omega)⟩
  | false =>
    cases q2 : decide (s.most m k (N k) > m.lim) with
    | true =>
      have hs : ¬ s.safeB m N = true := fun h => by
        have := hall.1 h k (by omega)
        unfold Sta.safeAt at this
        rw [q1, Bool.false_or] at this
        have h1 := of_decide_eq_true q2
        have h2 := of_decide_eq_true this
        omega
      have hs : s.safeB m N = false := by simpa using hs
      rw [hs]
      cases q3 : (s.stuck != -1) with
      | true =>
        rw [q3, Bool.true_and] at q1
        conv => whnf
        split
        rotate_left
        · rename_i h
          exact Bool.noConfusion ((q).symm.trans h)
        rename_i hN
        clear hN
        conv => whnf
        split
        rotate_left
        · rename_i h
          exact Bool.noConfusion ((q3).symm.trans h)
        rename_i hN
        clear hN
        conv => whnf
        split
        · rename_i h
          exact Bool.noConfusion ((q1).symm.trans h)
        rename_i hN
        clear hN
        conv => whnf
        repeat first
          | (refine DRAW.seek ?_; repeat (first | refine TRYD.take ?_ | refine TRYD.next ?_); conv => whnf)
          | (refine HOLD.mk (by first | exact trivial | exact ⟨⟨rfl, rfl⟩, trivial⟩ | exact ⟨⟨rfl, rfl⟩, ⟨rfl, rfl⟩, trivial⟩) ?_; (conv => whnf))
          | (refine CALL0.by (hpk ..) rfl ?_; conv => whnf)
          | (refine CALLQ.mk _ _ _ (leL_refl _) (hpk ..) rfl ?_; conv => whnf)
        split
        rotate_left
        · rename_i h
          exact Bool.noConfusion ((q2).symm.trans h)
        rename_i hN
        clear hN
        conv => whnf
        exact ⟨rfl, rfl⟩
      | false =>
        conv => whnf
        split
        rotate_left
        · rename_i h
          exact Bool.noConfusion ((q).symm.trans h)
        rename_i hN
        clear hN
        conv => whnf
        split
        · rename_i h
          exact Bool.noConfusion ((q3).symm.trans h)
        rename_i hN
        clear hN
        conv => whnf
        repeat first
          | (refine DRAW.seek ?_; repeat (first | refine TRYD.take ?_ | refine TRYD.next ?_); conv => whnf)
          | (refine HOLD.mk (by first | exact trivial | exact ⟨⟨rfl, rfl⟩, trivial⟩ | exact ⟨⟨rfl, rfl⟩, ⟨rfl, rfl⟩, trivial⟩) ?_; (conv => whnf))
          | (refine CALL0.by (hpk ..) rfl ?_; conv => whnf)
          | (refine CALLQ.mk _ _ _ (leL_refl _) (hpk ..) rfl ?_; conv => whnf)
        split
        rotate_left
        · rename_i h
          exact Bool.noConfusion ((q2).symm.trans h)
        rename_i hN
        clear hN
        conv => whnf
        exact ⟨rfl, rfl⟩
    | false =>
      have hs : s.safeAt m N k = true := by
        unfold Sta.safeAt
        have h1 := of_decide_eq_false q2
        rw [q1, Bool.false_or]
        exact decide_eq_true (by omega)
      cases q3 : (s.stuck != -1) with
      | true =>
        rw [q3, Bool.true_and] at q1
        conv => whnf
        split
        rotate_left
        · rename_i h
          exact Bool.noConfusion ((q).symm.trans h)
        rename_i hN
        clear hN
        conv => whnf
        split
        rotate_left
        · rename_i h
          exact Bool.noConfusion ((q3).symm.trans h)
        rename_i hN
        clear hN
        conv => whnf
        split
        · rename_i h
          exact Bool.noConfusion ((q1).symm.trans h)
        rename_i hN
        clear hN
        conv => whnf
        repeat first
          | (refine DRAW.seek ?_; repeat (first | refine TRYD.take ?_ | refine TRYD.next ?_); conv => whnf)
          | (refine HOLD.mk (by first | exact trivial | exact ⟨⟨rfl, rfl⟩, trivial⟩ | exact ⟨⟨rfl, rfl⟩, ⟨rfl, rfl⟩, trivial⟩) ?_; (conv => whnf))
          | (refine CALL0.by (hpk ..) rfl ?_; conv => whnf)
          | (refine CALLQ.mk _ _ _ (leL_refl _) (hpk ..) rfl ?_; conv => whnf)
        split
        · rename_i h
          exact Bool.noConfusion ((q2).symm.trans h)
        rename_i hN
        clear hN
        conv => whnf
        exact ⟨⟨k + 1, by omega, next hs⟩, ⟨⟨leV_int hw, leV_refl _, leV_refl _, trivial⟩, ⟨leL_refl _, leL_refl _, trivial⟩, rfl, rfl⟩, (by show 3 - (k + 1) < 3 - k; omega)⟩
      | false =>
        conv => whnf
        split
        rotate_left
        · rename_i h
          exact Bool.noConfusion ((q).symm.trans h)
        rename_i hN
        clear hN
        conv => whnf
        split
        · rename_i h
          exact Bool.noConfusion ((q3).symm.trans h)
        rename_i hN
        clear hN
        conv => whnf
        repeat first
          | (refine DRAW.seek ?_; repeat (first | refine TRYD.take ?_ | refine TRYD.next ?_); conv => whnf)
          | (refine HOLD.mk (by first | exact trivial | exact ⟨⟨rfl, rfl⟩, trivial⟩ | exact ⟨⟨rfl, rfl⟩, ⟨rfl, rfl⟩, trivial⟩) ?_; (conv => whnf))
          | (refine CALL0.by (hpk ..) rfl ?_; conv => whnf)
          | (refine CALLQ.mk _ _ _ (leL_refl _) (hpk ..) rfl ?_; conv => whnf)
        split
        · rename_i h
          exact Bool.noConfusion ((q2).symm.trans h)
        rename_i hN
        clear hN
        conv => whnf
        exact ⟨⟨k + 1, by omega, next hs⟩, ⟨⟨leV_int hw, leV_refl _, leV_refl _, trivial⟩, ⟨leL_refl _, leL_refl _, trivial⟩, rfl, rfl⟩, (by show 3 - (k + 1) < 3 - k; omega)⟩
end Go.Proofs.YtkdlegfakefjgaaGreatDoor.Ix

namespace Go.Proofs.YtkdlegfakefjgaaGreatDoor.Ix
open Go.Proofs
set_option maxRecDepth 100000
set_option linter.unusedVariables false
set_option linter.unusedSimpArgs false
variable {gl : Nat → IV}
def Sta.zero : Sta := ⟨ByteArray.empty, 0, 0, 0, 0, 0, 0⟩
def Sta.err0 (s : Sta) (m : Mc) (stuck : Int) : Int := orL [s.err m, withinS stuck (-1) 2]
def Sta.peakR (s : Sta) (m : Mc) (stuck : Int) (n : Nat) : IV := bif s.err0 m stuck != 0 then .tup [.int .i64 0, .int .i64 0, .int .i64 (s.err0 m stuck)] else .tup [.int .i64 (s.most m stuck n), .int .i64 n, .int .i64 0]
theorem err0_ok {s : Sta} {m : Mc} {stuck : Int} (h : s.err0 m stuck = 0) : s.err m = 0 ∧ -1 ≤ stuck ∧ stuck ≤ 2 := by
  unfold Sta.err0 orL orL orL at h
  rw [orE_zero, orE_zero, withinS_zero] at h
  exact ⟨h.1, h.2.1.1, h.2.1.2⟩
theorem c_Peak (up : List Ces) (s : Sta) (m : Mc) (stuck : Int) (n : Nat) (hn : s.err0 m stuck = 0 → s.takes m stuck n ∧ n ≤ 1000000) : Cs gl n_control_Peak up [m.iv, s.iv, .int .i64 stuck] (s.peakR m stuck n) up := by
  refine mk h_control_Peak rfl rfl ?_
  unfold Sta.peakR
  by_cases h0 : s.err0 m stuck = 0
  · obtain ⟨g1, g2, g3⟩ := err0_ok h0
    have hp := fun up => c_peak (gl := gl) up s m stuck g2 g3 n (hn h0).1 (hn h0).2
    have q : (s.err0 m stuck != 0) = false := by simpa using h0
    rw [q]
    conv => whnf
    repeat first
      | (refine DRAW.seek ?_; repeat (first | refine TRYD.take ?_ | refine TRYD.next ?_); conv => whnf)
      | (refine HOLD.mk (by first | exact trivial | exact ⟨⟨rfl, rfl⟩, trivial⟩ | exact ⟨⟨rfl, rfl⟩, ⟨rfl, rfl⟩, trivial⟩) ?_; (conv => whnf))
      | (refine CALL0.by (c_CheckState ..) rfl ?_; conv => whnf)
      | (refine CALLQ.mk _ _ _ (leL_refl _) (c_CheckState ..) rfl ?_; conv => whnf)
      | (refine CALL0.by (c_checkBlade ..) rfl ?_; conv => whnf)
      | (refine CALLQ.mk _ _ _ (leL_refl _) (c_checkBlade ..) rfl ?_; conv => whnf)
    refine .mk _ _ _ _ _ (leL_refl _) (c_f2 _ _ _ _ rfl rfl) rfl ?_
    conv => whnf
    split
    · rename_i h
      exact Bool.noConfusion ((q).symm.trans h)
    rename_i hN
    clear hN
    conv => whnf
    repeat first
      | (refine DRAW.seek ?_; repeat (first | refine TRYD.take ?_ | refine TRYD.next ?_); conv => whnf)
      | (refine HOLD.mk (by first | exact trivial | exact ⟨⟨rfl, rfl⟩, trivial⟩ | exact ⟨⟨rfl, rfl⟩, ⟨rfl, rfl⟩, trivial⟩) ?_; (conv => whnf))
      | (refine CALL0.by (hp ..) rfl ?_; conv => whnf)
      | (refine CALLQ.mk _ _ _ (leL_refl _) (hp ..) rfl ?_; conv => whnf)
    exact ⟨rfl, rfl⟩
  · have q : (s.err0 m stuck != 0) = true := by simpa using h0
    rw [q]
    conv => whnf
    repeat first
      | (refine DRAW.seek ?_; repeat (first | refine TRYD.take ?_ | refine TRYD.next ?_); conv => whnf)
      | (refine HOLD.mk (by first | exact trivial | exact ⟨⟨rfl, rfl⟩, trivial⟩ | exact ⟨⟨rfl, rfl⟩, ⟨rfl, rfl⟩, trivial⟩) ?_; (conv => whnf))
      | (refine CALL0.by (c_CheckState ..) rfl ?_; conv => whnf)
      | (refine CALLQ.mk _ _ _ (leL_refl _) (c_CheckState ..) rfl ?_; conv => whnf)
      | (refine CALL0.by (c_checkBlade ..) rfl ?_; conv => whnf)
      | (refine CALLQ.mk _ _ _ (leL_refl _) (c_checkBlade ..) rfl ?_; conv => whnf)
    refine .mk _ _ _ _ _ (leL_refl _) (c_f2 _ _ _ _ rfl rfl) rfl ?_
    conv => whnf
    split
    rotate_left
    · rename_i h
      exact Bool.noConfusion ((q).symm.trans h)
    rename_i hN
    clear hN
    conv => whnf
    exact ⟨rfl, rfl⟩
def Sta.StopR (s : Sta) (m : Mc) (stuck : Int) (n : Nat) : IV := bif s.err0 m stuck != 0 then .tup [.nilS, .int .i64 (s.err0 m stuck)] else
  bif decide (s.most m stuck n > m.lim) then .tup [.nilS, .int .i64 4] else .tup [.lst (some 25) 7 (1 + n) (s.stopF m stuck), .int .i64 0]
theorem c_Stop (up : List Ces) (s : Sta) (m : Mc) (stuck : Int) (n : Nat) (hn : s.err0 m stuck = 0 → s.takes m stuck n ∧ n ≤ 1000000) : Cs gl n_control_Stop up [m.iv, s.iv, .int .i64 stuck] (s.StopR m stuck n) up := by
  refine mk h_control_Stop rfl rfl ?_
  unfold Sta.StopR
  by_cases h0 : s.err0 m stuck = 0
  · obtain ⟨g1, g2, g3⟩ := err0_ok h0
    have hp := fun up => c_stop (gl := gl) up s m stuck g2 g3 n (hn h0).1 (hn h0).2
    unfold Sta.stopR at hp
    have q : (s.err0 m stuck != 0) = false := by simpa using h0
    rw [q]
    cases q2 : decide (s.most m stuck n > m.lim) with
    | true =>
      rw [q2] at hp
      conv => whnf
      repeat first
        | (refine DRAW.seek ?_; repeat (first | refine TRYD.take ?_ | refine TRYD.next ?_); conv => whnf)
        | (refine HOLD.mk (by first | exact trivial | exact ⟨⟨rfl, rfl⟩, trivial⟩ | exact ⟨⟨rfl, rfl⟩, ⟨rfl, rfl⟩, trivial⟩) ?_; (conv => whnf))
        | (refine CALL0.by (c_CheckState ..) rfl ?_; conv => whnf)
        | (refine CALLQ.mk _ _ _ (leL_refl _) (c_CheckState ..) rfl ?_; conv => whnf)
        | (refine CALL0.by (c_checkBlade ..) rfl ?_; conv => whnf)
        | (refine CALLQ.mk _ _ _ (leL_refl _) (c_checkBlade ..) rfl ?_; conv => whnf)
      refine .mk _ _ _ _ _ (leL_refl _) (c_f2 _ _ _ _ rfl rfl) rfl ?_
      conv => whnf
      split
      · rename_i h
        exact Bool.noConfusion ((q).symm.trans h)
      rename_i hN
      clear hN
      conv => whnf
      repeat first
        | (refine DRAW.seek ?_; repeat (first | refine TRYD.take ?_ | refine TRYD.next ?_); conv => whnf)
        | (refine HOLD.mk (by first | exact trivial | exact ⟨⟨rfl, rfl⟩, trivial⟩ | exact ⟨⟨rfl, rfl⟩, ⟨rfl, rfl⟩, trivial⟩) ?_; (conv => whnf))
        | (refine CALL0.by (hp ..) rfl ?_; conv => whnf)
        | (refine CALLQ.mk _ _ _ (leL_refl _) (hp ..) rfl ?_; conv => whnf)
        | (refine CALL0.by (c_when ..) rfl ?_; conv => whnf)
        | (refine CALLQ.mk _ _ _ (leL_refl _) (c_when ..) rfl ?_; conv => whnf)
      exact ⟨rfl, rfl⟩
    | false =>
      rw [q2] at hp
      conv => whnf
      repeat first
        | (refine DRAW.seek ?_; repeat (first | refine TRYD.take ?_ | refine TRYD.next ?_); conv => whnf)
        | (refine HOLD.mk (by first | exact trivial | exact ⟨⟨rfl, rfl⟩, trivial⟩ | exact ⟨⟨rfl, rfl⟩, ⟨rfl, rfl⟩, trivial⟩) ?_; (conv => whnf))
        | (refine CALL0.by (c_CheckState ..) rfl ?_; conv => whnf)
        | (refine CALLQ.mk _ _ _ (leL_refl _) (c_CheckState ..) rfl ?_; conv => whnf)
        | (refine CALL0.by (c_checkBlade ..) rfl ?_; conv => whnf)
        | (refine CALLQ.mk _ _ _ (leL_refl _) (c_checkBlade ..) rfl ?_; conv => whnf)
      refine .mk _ _ _ _ _ (leL_refl _) (c_f2 _ _ _ _ rfl rfl) rfl ?_
      conv => whnf
      split
      · rename_i h
        exact Bool.noConfusion ((q).symm.trans h)
      rename_i hN
      clear hN
      conv => whnf
      repeat first
        | (refine DRAW.seek ?_; repeat (first | refine TRYD.take ?_ | refine TRYD.next ?_); conv => whnf)
        | (refine HOLD.mk (by first | exact trivial | exact ⟨⟨rfl, rfl⟩, trivial⟩ | exact ⟨⟨rfl, rfl⟩, ⟨rfl, rfl⟩, trivial⟩) ?_; (conv => whnf))
        | (refine CALL0.by (hp ..) rfl ?_; conv => whnf)
        | (refine CALLQ.mk _ _ _ (leL_refl _) (hp ..) rfl ?_; conv => whnf)
        | (refine CALL0.by (c_when ..) rfl ?_; conv => whnf)
        | (refine CALLQ.mk _ _ _ (leL_refl _) (c_when ..) rfl ?_; conv => whnf)
      exact ⟨rfl, rfl⟩
  · have q : (s.err0 m stuck != 0) = true := by simpa using h0
    rw [q]
    conv => whnf
    repeat first
      | (refine DRAW.seek ?_; repeat (first | refine TRYD.take ?_ | refine TRYD.next ?_); conv => whnf)
      | (refine HOLD.mk (by first | exact trivial | exact ⟨⟨rfl, rfl⟩, trivial⟩ | exact ⟨⟨rfl, rfl⟩, ⟨rfl, rfl⟩, trivial⟩) ?_; (conv => whnf))
      | (refine CALL0.by (c_CheckState ..) rfl ?_; conv => whnf)
      | (refine CALLQ.mk _ _ _ (leL_refl _) (c_CheckState ..) rfl ?_; conv => whnf)
      | (refine CALL0.by (c_checkBlade ..) rfl ?_; conv => whnf)
      | (refine CALLQ.mk _ _ _ (leL_refl _) (c_checkBlade ..) rfl ?_; conv => whnf)
    refine .mk _ _ _ _ _ (leL_refl _) (c_f2 _ _ _ _ rfl rfl) rfl ?_
    conv => whnf
    split
    rotate_left
    · rename_i h
      exact Bool.noConfusion ((q).symm.trans h)
    rename_i hN
    clear hN
    conv => whnf
    exact ⟨rfl, rfl⟩
end Go.Proofs.YtkdlegfakefjgaaGreatDoor.Ix

namespace Go.Proofs.YtkdlegfakefjgaaGreatDoor.Ix
open Go.Proofs
set_option maxRecDepth 100000
set_option linter.unusedVariables false
set_option linter.unusedSimpArgs false
variable {gl : Nat → IV}
def sBrake : ByteArray := ⟨#[98, 114, 97, 107, 101]⟩
def sRepair : ByteArray := ⟨#[114, 101, 112, 97, 105, 114]⟩
def sRest : ByteArray := ⟨#[114, 101, 115, 116]⟩
def sStart : ByteArray := ⟨#[115, 116, 97, 114, 116]⟩
def sTick : ByteArray := ⟨#[116, 105, 99, 107]⟩
def kindsL : List ByteArray := [sBrake, sRepair, sRest, sStart, sStop, sTick]
def kindsI : IV := .vptr 6 1 (fun _ => [.str sBrake, .str sRepair, .str sRest, .str sStart, .str sStop, .str sTick]) 0 0
abbrev eqS (a b : ByteArray) : Bool := a.toList == b.toList
theorem eqS_iff {a b : ByteArray} : eqS a b = true ↔ a = b := by
  unfold eqS
  rw [beq_iff_eq, Lib.toList_data, Lib.toList_data]
  constructor
  · intro h
    obtain ⟨x⟩ := a
    obtain ⟨y⟩ := b
    have : x = y := by simpa using h
    rw [this]
  · intro h; rw [h]
theorem eqS_beq (a b : ByteArray) : (a == b) = eqS a b := by
  rw [Bool.eq_iff_iff, eqS_iff, MapKept.bytes_beq]
def idxS (x : ByteArray) : List ByteArray → Int → Int
  | [], _ => -1
  | k :: r, i => bif eqS x k then i else idxS x r (i + 1)
theorem idxS_drop (x : ByteArray) (l : List ByteArray) (k : Nat) (hk : k < l.length) : idxS x (l.drop k) k = bif eqS x (l.getD k ByteArray.empty) then (k : Int) else idxS x (l.drop (k + 1)) ((k + 1 : Nat) : Int) := by
  rw [List.drop_eq_getElem_cons hk, show l.getD k ByteArray.empty = l[k] by simp [List.getD, hk]]
  rfl
theorem c_Index (up : List Ces) (l : List ByteArray) (hl : l.length ≤ 1000000) (x : ByteArray) :
    Cs gl n_slices_Index_string_string up [.lst none 1 l.length fun i => [.str (l.getD i ByteArray.empty)], .str x] (.int .i64 (idxS x l 0)) up := by
  refine mk h_slices_Index_string_string rfl rfl ?_
  conv => whnf
  refine .mk (α := {i : Nat // i ≤ l.length ∧ idxS x l 0 = idxS x (l.drop i) i}) (fun i => ⟨[(8, .int .i64 i.1), (7, .int .i64 l.length), (0, .lst none 1 l.length fun i => [.str (l.getD i ByteArray.empty)]), (1, .str x)], [], up⟩) (fun i => l.length - i.1) ⟨0, Nat.zero_le _, rfl⟩ ⟨?_, trivial, rfl, rfl⟩ ?_
  · exact ⟨leV_refl _, leV_refl _, leV_refl _, leV_refl _, trivial⟩
  rintro ⟨i, hi, he⟩
  have hw : w64 ((i : Int) + 1) = ((i + 1 : Nat) : Int) := by rw [w64, wrap_in] <;> omega
  by_cases hlt : i < l.length
  · have q : decide ((i : Int) < l.length) = true := decide_eq_true (by omega)
    have hd := idxS_drop x l i hlt
    cases q2 : eqS x (l.getD i ByteArray.empty) with
    | true =>
      rw [q2, cond_true] at hd
      conv => whnf
      split
      rotate_left
      · rename_i h
        exact Bool.noConfusion ((q).symm.trans h)
      rename_i hN
      clear hN
      conv => whnf
      split
      rotate_left
      · rename_i h
        exact Bool.noConfusion ((q).symm.trans h)
      rename_i hN
      clear hN
      conv => whnf
      split
      rotate_left
      · rename_i h
        exact Bool.noConfusion ((q2).symm.trans h)
      rename_i hN
      clear hN
      conv => whnf
      exact ⟨congrArg (IV.int .i64) (he.trans hd).symm, rfl⟩
    | false =>
      rw [q2, cond_false] at hd
      conv => whnf
      split
      rotate_left
      · rename_i h
        exact Bool.noConfusion ((q).symm.trans h)
      rename_i hN
      clear hN
      conv => whnf
      split
      rotate_left
      · rename_i h
        exact Bool.noConfusion ((q).symm.trans h)
      rename_i hN
      clear hN
      conv => whnf
      split
      · rename_i h
        exact Bool.noConfusion ((q2).symm.trans h)
      rename_i hN
      clear hN
      conv => whnf
      exact ⟨⟨i + 1, hlt, he.trans hd⟩, ⟨⟨leV_int hw, leV_refl _, leV_refl _, leV_refl _, trivial⟩, trivial, rfl, rfl⟩, (by show l.length - (i + 1) < l.length - i; omega)⟩
  · have q : decide ((i : Int) < l.length) = false := decide_eq_false (by omega)
    have : i = l.length := by omega
    subst this
    conv => whnf
    split
    · rename_i h
      exact Bool.noConfusion ((q).symm.trans h)
    rename_i hN
    clear hN
    conv => whnf
    refine ⟨congrArg (IV.int .i64) (Eq.symm (he.trans ?_)), rfl⟩
    rw [List.drop_length]; rfl
theorem c_Contains (up : List Ces) (l : List ByteArray) (hl : l.length ≤ 1000000) (x : ByteArray) :
    Cs gl n_slices_Contains_string_string up [.lst none 1 l.length fun i => [.str (l.getD i ByteArray.empty)], .str x] (.bool (decide (idxS x l 0 ≥ 0))) up := by
  refine mk h_slices_Contains_string_string rfl rfl ?_
  conv => whnf
  refine .mk _ _ _ _ _ (leL_refl _) (c_Index _ l hl x) rfl ?_
  conv => whnf
  exact ⟨rfl, rfl⟩
theorem c_Contains6 (up : List Ces) (x : ByteArray) (f : Nat → List IV) (h : ∀ i, i < 6 → f i = [.str (kindsL.getD i ByteArray.empty)]) :
    Cs gl n_slices_Contains_string_string up [.lst none 1 6 f, .str x] (.bool (decide (idxS x kindsL 0 ≥ 0))) up :=
  Comp.le (show leL [.lst none 1 6 f, .str x] [.lst none 1 6 fun i => [.str (kindsL.getD i ByteArray.empty)], .str x] from ⟨⟨.inl rfl, rfl, rfl, fun i hi => h i hi⟩, leV_refl _, trivial⟩) (c_Contains up kindsL (by decide) x)
def Ac.formB (a : Ac) : Bool := bif eqS a.kind sTick then true else bif !eqS a.kind sBrake then (a.wind == 0 && (a.pitch == 0 && (a.tor == 0 && a.stuck == -1))) else (a.pitch == 0 && a.tor == 0)
theorem c_formed (up : List Ces) (a : Ac) : Cs gl n_control_Act_formed up [a.iv] (.int .i64 (bif !a.formB then 2 else 0)) up := by
  refine mk h_control_Act_formed rfl rfl ?_
  unfold Ac.formB
  cases q : eqS a.kind sTick with
  | true =>
    conv => whnf
    split
    rotate_left
    · rename_i h
      exact Bool.noConfusion ((q).symm.trans h)
    rename_i hN
    clear hN
    conv => whnf
    exact ⟨rfl, rfl⟩
  | false =>
    cases q2 : (!eqS a.kind sBrake) with
    | true =>
      conv => whnf
      split
      · rename_i h
        exact Bool.noConfusion ((q).symm.trans h)
      rename_i hN
      clear hN
      conv => whnf
      split
      rotate_left
      · rename_i h
        exact Bool.noConfusion ((q2).symm.trans h)
      rename_i hN
      clear hN
      conv => whnf
      refine .mk _ _ _ _ _ (leL_refl _) (c_when _ _ _) rfl ?_
      conv => whnf
      exact ⟨by simp, rfl⟩
    | false =>
      conv => whnf
      split
      · rename_i h
        exact Bool.noConfusion ((q).symm.trans h)
      rename_i hN
      clear hN
      conv => whnf
      split
      · rename_i h
        exact Bool.noConfusion ((q2).symm.trans h)
      rename_i hN
      clear hN
      conv => whnf
      refine .mk _ _ _ _ _ (leL_refl _) (c_when _ _ _) rfl ?_
      conv => whnf
      exact ⟨by simp, rfl⟩
theorem evo_gl {g : Nat} {x : IV} {S : St} {n : Nat} (h : gl g = x) : evo ⟨(Γs gl).P, (Γs gl).T, (Γs gl).gl, n, (Γs gl).vis, none, none, (Γs gl).rw⟩ S (.global g) = x := by
  cases S; exact h
def Ac.checkE (a : Ac) (w p t : Int) : Int := orL [bif !decide (idxS a.kind kindsL 0 ≥ 0) then 13 else 0, withinS a.wind 0 w, withinS a.pitch 0 p, withinS a.tor 0 t, withinS a.stuck (-1) 2, bif !a.formB then 2 else 0]
set_option maxHeartbeats 8000000 in
theorem c_check (up : List Ces) (hk : gl g_control_kinds = kindsI) (a : Ac) (w p t : Int) : Cs gl n_control_Act_check up [a.iv, .int .i64 w, .int .i64 p, .int .i64 t] (.int .i64 (a.checkE w p t)) up := by
  refine mk h_control_Act_check rfl rfl ?_
  conv => whnf
  refine DRAW.seek ?_
  repeat (first | refine TRYD.take ?_ | refine TRYD.next ?_)
  conv => whnf
  rw [evo_gl hk]
  conv => whnf
  refine .mk _ _ _ (leL_refl _) (c_Contains6 _ _ _ fun i hi => by
    match i, hi with
    | 0, _ => rfl
    | 1, _ => rfl
    | 2, _ => rfl
    | 3, _ => rfl
    | 4, _ => rfl
    | 5, _ => rfl) rfl ?_
  conv => whnf
  repeat first
    | (refine DRAW.seek ?_; repeat (first | refine TRYD.take ?_ | refine TRYD.next ?_); conv => whnf)
    | (refine HOLD.mk (by first | exact trivial | exact ⟨⟨rfl, rfl⟩, trivial⟩ | exact ⟨⟨rfl, rfl⟩, ⟨rfl, rfl⟩, trivial⟩) ?_; (conv => whnf))
    | (refine CALL0.by (c_when ..) rfl ?_; conv => whnf)
    | (refine CALLQ.mk _ _ _ (leL_refl _) (c_when ..) rfl ?_; conv => whnf)
    | (refine CALL0.by (c_within ..) rfl ?_; conv => whnf)
    | (refine CALLQ.mk _ _ _ (leL_refl _) (c_within ..) rfl ?_; conv => whnf)
    | (refine CALL0.by (c_checkBlade ..) rfl ?_; conv => whnf)
    | (refine CALLQ.mk _ _ _ (leL_refl _) (c_checkBlade ..) rfl ?_; conv => whnf)
    | (refine CALL0.by (c_formed ..) rfl ?_; conv => whnf)
    | (refine CALLQ.mk _ _ _ (leL_refl _) (c_formed ..) rfl ?_; conv => whnf)
  refine .mk _ _ _ _ _ (leL_refl _) (c_f6 _ _ _ _ _ _ _ _ rfl rfl rfl rfl rfl rfl) rfl ?_
  conv => whnf
  exact ⟨rfl, rfl⟩
end Go.Proofs.YtkdlegfakefjgaaGreatDoor.Ix

namespace Go.Proofs.YtkdlegfakefjgaaGreatDoor.Ix
open Go.Proofs
set_option maxRecDepth 100000
set_option linter.unusedVariables false
set_option linter.unusedSimpArgs false
variable {gl : Nat → IV}
def Ac.err (a : Ac) (m : Mc) : Int := orL [m.err, a.checkE m.wind m.fea m.tor]
theorem c_CheckAct (up : List Ces) (hk : gl g_control_kinds = kindsI) (m : Mc) (a : Ac) : Cs gl n_control_CheckAct up [m.iv, a.iv] (.int .i64 (a.err m)) up := by
  refine mk h_control_CheckAct rfl rfl ?_
  have hc := fun up => c_check (gl := gl) up hk a m.wind m.fea m.tor
  conv => whnf
  repeat first
    | (refine DRAW.seek ?_; repeat (first | refine TRYD.take ?_ | refine TRYD.next ?_); conv => whnf)
    | (refine HOLD.mk (by first | exact trivial | exact ⟨⟨rfl, rfl⟩, trivial⟩ | exact ⟨⟨rfl, rfl⟩, ⟨rfl, rfl⟩, trivial⟩) ?_; (conv => whnf))
    | (refine CALL0.by (c_CheckMachine ..) rfl ?_; conv => whnf)
    | (refine CALLQ.mk _ _ _ (leL_refl _) (c_CheckMachine ..) rfl ?_; conv => whnf)
    | (refine CALL0.by (hc ..) rfl ?_; conv => whnf)
    | (refine CALLQ.mk _ _ _ (leL_refl _) (hc ..) rfl ?_; conv => whnf)
  refine .mk _ _ _ _ _ (leL_refl _) (c_f2 _ _ _ _ rfl rfl) rfl ?_
  conv => whnf
  exact ⟨rfl, rfl⟩
theorem c_plain (up : List Ces) (k : ByteArray) : Cs gl n_control_plain up [.str k] (Ac.mk k 0 0 0 (-1)).iv up := by
  refine mk h_control_plain rfl rfl ?_
  conv => whnf
  exact ⟨rfl, rfl⟩
def Sta.behindW (s : Sta) (m : Mc) (a : Ac) : Sta :=
  bif eqS a.kind sStart then { s with mode := sRun } else
  bif eqS a.kind sTick then Sta.laterW { s.movedW m a.pitch a.stuck with tor := a.tor } a.wind else
  bif eqS a.kind sStop then { s with mode := sStop, tor := 0 } else
  bif eqS a.kind sBrake then s.brakedW m a.wind a.stuck else
  bif eqS a.kind sRest then { s with mode := sIdle } else
  bif eqS a.kind sRepair then { s with p0 := m.fea, p1 := m.fea, p2 := m.fea, stuck := -1 } else s
set_option maxHeartbeats 8000000 in
theorem c_behind (up : List Ces) (m : Mc) (s : Sta) (a : Ac) : Cs gl n_control_State_behind up [s.iv, m.iv, a.iv] (s.behindW m a).iv up := by
  refine mk h_control_State_behind rfl rfl ?_
  unfold Sta.behindW
  cases q1 : eqS a.kind sStart with
  | true =>
    conv => whnf
    split
    rotate_left
    · rename_i h
      exact Bool.noConfusion ((q1).symm.trans h)
    rename_i hN
    clear hN
    conv => whnf
    exact ⟨rfl, rfl⟩
  | false =>
  cases q2 : eqS a.kind sTick with
  | true =>
    conv => whnf
    split
    · rename_i h
      exact Bool.noConfusion ((q1).symm.trans h)
    rename_i hN
    clear hN
    conv => whnf
    split
    rotate_left
    · rename_i h
      exact Bool.noConfusion ((q2).symm.trans h)
    rename_i hN
    clear hN
    conv => whnf
    refine .mk _ _ _ _ _ (leL_refl _) (c_moved _ m s _ _) rfl ?_
    conv => whnf
    refine .mk _ _ _ _ _ (leL_refl _) (c_later _ { s.movedW m a.pitch a.stuck with tor := a.tor } _) rfl ?_
    conv => whnf
    exact ⟨rfl, rfl⟩
  | false =>
  cases q3 : eqS a.kind sStop with
  | true =>
    conv => whnf
    split
    · rename_i h
      exact Bool.noConfusion ((q1).symm.trans h)
    rename_i hN
    clear hN
    conv => whnf
    split
    · rename_i h
      exact Bool.noConfusion ((q2).symm.trans h)
    rename_i hN
    clear hN
    conv => whnf
    split
    rotate_left
    · rename_i h
      exact Bool.noConfusion ((q3).symm.trans h)
    rename_i hN
    clear hN
    conv => whnf
    exact ⟨rfl, rfl⟩
  | false =>
  cases q4 : eqS a.kind sBrake with
  | true =>
    conv => whnf
    split
    · rename_i h
      exact Bool.noConfusion ((q1).symm.trans h)
    rename_i hN
    clear hN
    conv => whnf
    split
    · rename_i h
      exact Bool.noConfusion ((q2).symm.trans h)
    rename_i hN
    clear hN
    conv => whnf
    split
    · rename_i h
      exact Bool.noConfusion ((q3).symm.trans h)
    rename_i hN
    clear hN
    conv => whnf
    split
    rotate_left
    · rename_i h
      exact Bool.noConfusion ((q4).symm.trans h)
    rename_i hN
    clear hN
    conv => whnf
    refine .mk _ _ _ _ _ (leL_refl _) (c_braked _ m s _ _) rfl ?_
    conv => whnf
    exact ⟨rfl, rfl⟩
  | false =>
  cases q5 : eqS a.kind sRest with
  | true =>
    conv => whnf
    split
    · rename_i h
      exact Bool.noConfusion ((q1).symm.trans h)
    rename_i hN
    clear hN
    conv => whnf
    split
    · rename_i h
      exact Bool.noConfusion ((q2).symm.trans h)
    rename_i hN
    clear hN
    conv => whnf
    split
    · rename_i h
      exact Bool.noConfusion ((q3).symm.trans h)
    rename_i hN
    clear hN
    conv => whnf
    split
    · rename_i h
      exact Bool.noConfusion ((q4).symm.trans h)
    rename_i hN
    clear hN
    conv => whnf
    split
    rotate_left
    · rename_i h
      exact Bool.noConfusion ((q5).symm.trans h)
    rename_i hN
    clear hN
    conv => whnf
    exact ⟨rfl, rfl⟩
  | false =>
  cases q6 : eqS a.kind sRepair with
  | true =>
    conv => whnf
    split
    · rename_i h
      exact Bool.noConfusion ((q1).symm.trans h)
    rename_i hN
    clear hN
    conv => whnf
    split
    · rename_i h
      exact Bool.noConfusion ((q2).symm.trans h)
    rename_i hN
    clear hN
    conv => whnf
    split
    · rename_i h
      exact Bool.noConfusion ((q3).symm.trans h)
    rename_i hN
    clear hN
    conv => whnf
    split
    · rename_i h
      exact Bool.noConfusion ((q4).symm.trans h)
    rename_i hN
    clear hN
    conv => whnf
    split
    · rename_i h
      exact Bool.noConfusion ((q5).symm.trans h)
    rename_i hN
    clear hN
    conv => whnf
    split
    rotate_left
    · rename_i h
      exact Bool.noConfusion ((q6).symm.trans h)
    rename_i hN
    clear hN
    conv => whnf
    repeat first
      | (refine DRAW.seek ?_; repeat (first | refine TRYD.take ?_ | refine TRYD.next ?_); conv => whnf)
      | (refine HOLD.mk (by first | exact trivial | exact ⟨⟨rfl, rfl⟩, trivial⟩ | exact ⟨⟨rfl, rfl⟩, ⟨rfl, rfl⟩, trivial⟩) ?_; (conv => whnf))
      | (refine CALL0.by (c_begin ..) rfl ?_; conv => whnf)
      | (refine CALLQ.mk _ _ _ (leL_refl _) (c_begin ..) rfl ?_; conv => whnf)
    exact ⟨rfl, rfl⟩
  | false =>
    conv => whnf
    split
    · rename_i h
      exact Bool.noConfusion ((q1).symm.trans h)
    rename_i hN
    clear hN
    conv => whnf
    split
    · rename_i h
      exact Bool.noConfusion ((q2).symm.trans h)
    rename_i hN
    clear hN
    conv => whnf
    split
    · rename_i h
      exact Bool.noConfusion ((q3).symm.trans h)
    rename_i hN
    clear hN
    conv => whnf
    split
    · rename_i h
      exact Bool.noConfusion ((q4).symm.trans h)
    rename_i hN
    clear hN
    conv => whnf
    split
    · rename_i h
      exact Bool.noConfusion ((q5).symm.trans h)
    rename_i hN
    clear hN
    conv => whnf
    split
    · rename_i h
      exact Bool.noConfusion ((q6).symm.trans h)
    rename_i hN
    clear hN
    conv => whnf
    exact ⟨rfl, rfl⟩
theorem c_mode (up : List Ces) (k : ByteArray) : Cs gl n_control_mode up [.str k] (.fn n_control_mode_1 [] [.vptr 1 1 (fun _ => [.str k]) 0 0]) up := by
  refine mk h_control_mode rfl rfl ?_
  conv => whnf
  exact ⟨rfl, rfl⟩
theorem c_mode1 (up : List Ces) (m : Mc) (s : Sta) (a : Ac) (k : ByteArray) : Cs gl n_control_mode_1 up [m.iv, s.iv, a.iv, .vptr 1 1 (fun _ => [.str k]) 0 0] (.bool (!eqS s.mode k)) up := by
  refine mk h_control_mode_1 rfl rfl ?_
  conv => whnf
  exact ⟨rfl, rfl⟩
def Sta.rule4 (s : Sta) (m : Mc) : Bool := (!(s.p0 == m.fea && (s.p1 == m.fea && (s.p2 == m.fea && true)))) || s.stuck != -1
theorem c_rules1 (up : List Ces) (m : Mc) (s : Sta) (a : Ac) : Cs gl n_control_rules_1 up [m.iv, s.iv, a.iv] (.bool (s.rule4 m)) up := by
  refine mk h_control_rules_1 rfl rfl ?_
  unfold Sta.rule4
  cases q : (!(s.p0 == m.fea && (s.p1 == m.fea && (s.p2 == m.fea && true)))) with
  | true =>
    conv => whnf
    repeat first
      | (refine DRAW.seek ?_; repeat (first | refine TRYD.take ?_ | refine TRYD.next ?_); conv => whnf)
      | (refine HOLD.mk (by first | exact trivial | exact ⟨⟨rfl, rfl⟩, trivial⟩ | exact ⟨⟨rfl, rfl⟩, ⟨rfl, rfl⟩, trivial⟩) ?_; (conv => whnf))
      | (refine CALL0.by (c_begin ..) rfl ?_; conv => whnf)
      | (refine CALLQ.mk _ _ _ (leL_refl _) (c_begin ..) rfl ?_; conv => whnf)
    split
    rotate_left
    · rename_i h
      exact Bool.noConfusion ((q).symm.trans h)
    rename_i hN
    clear hN
    conv => whnf
    exact ⟨rfl, rfl⟩
  | false =>
    conv => whnf
    repeat first
      | (refine DRAW.seek ?_; repeat (first | refine TRYD.take ?_ | refine TRYD.next ?_); conv => whnf)
      | (refine HOLD.mk (by first | exact trivial | exact ⟨⟨rfl, rfl⟩, trivial⟩ | exact ⟨⟨rfl, rfl⟩, ⟨rfl, rfl⟩, trivial⟩) ?_; (conv => whnf))
      | (refine CALL0.by (c_begin ..) rfl ?_; conv => whnf)
      | (refine CALLQ.mk _ _ _ (leL_refl _) (c_begin ..) rfl ?_; conv => whnf)
    split
    · rename_i h
      exact Bool.noConfusion ((q).symm.trans h)
    rename_i hN
    clear hN
    conv => whnf
    exact ⟨rfl, rfl⟩
def Sta.rule5 (s : Sta) (m : Mc) : Bool := s.speed != 0 || decide (atA m.fea [s.p0, s.p1, s.p2] < 2)
theorem c_rules2 (up : List Ces) (m : Mc) (s : Sta) (a : Ac) : Cs gl n_control_rules_2 up [m.iv, s.iv, a.iv] (.bool (s.rule5 m)) up := by
  refine mk h_control_rules_2 rfl rfl ?_
  unfold Sta.rule5
  cases q : s.speed != 0 with
  | true =>
    conv => whnf
    split
    rotate_left
    · rename_i h
      exact Bool.noConfusion ((q).symm.trans h)
    rename_i hN
    clear hN
    conv => whnf
    exact ⟨rfl, rfl⟩
  | false =>
    conv => whnf
    split
    · rename_i h
      exact Bool.noConfusion ((q).symm.trans h)
    rename_i hN
    clear hN
    conv => whnf
    repeat first
      | (refine DRAW.seek ?_; repeat (first | refine TRYD.take ?_ | refine TRYD.next ?_); conv => whnf)
      | (refine HOLD.mk (by first | exact trivial | exact ⟨⟨rfl, rfl⟩, trivial⟩ | exact ⟨⟨rfl, rfl⟩, ⟨rfl, rfl⟩, trivial⟩) ?_; (conv => whnf))
      | (refine CALL0.by (c_feathered ..) rfl ?_; conv => whnf)
      | (refine CALLQ.mk _ _ _ (leL_refl _) (c_feathered ..) rfl ?_; conv => whnf)
    exact ⟨rfl, rfl⟩
def Sta.rule6 (s : Sta) (a : Ac) : Bool := a.stuck != -1 && (s.stuck != -1 && a.stuck != s.stuck)
theorem c_rules3 (up : List Ces) (m : Mc) (s : Sta) (a : Ac) : Cs gl n_control_rules_3 up [m.iv, s.iv, a.iv] (.bool (s.rule6 a)) up := by
  refine mk h_control_rules_3 rfl rfl ?_
  unfold Sta.rule6
  cases q : a.stuck != -1 with
  | false =>
    conv => whnf
    split
    · rename_i h
      exact Bool.noConfusion ((q).symm.trans h)
    rename_i hN
    clear hN
    conv => whnf
    exact ⟨rfl, rfl⟩
  | true =>
    cases q2 : s.stuck != -1 with
    | false =>
      conv => whnf
      split
      rotate_left
      · rename_i h
        exact Bool.noConfusion ((q).symm.trans h)
      rename_i hN
      clear hN
      conv => whnf
      split
      · rename_i h
        exact Bool.noConfusion ((q2).symm.trans h)
      rename_i hN
      clear hN
      conv => whnf
      exact ⟨rfl, rfl⟩
    | true =>
      conv => whnf
      split
      rotate_left
      · rename_i h
        exact Bool.noConfusion ((q).symm.trans h)
      rename_i hN
      clear hN
      conv => whnf
      split
      rotate_left
      · rename_i h
        exact Bool.noConfusion ((q2).symm.trans h)
      rename_i hN
      clear hN
      conv => whnf
      exact ⟨rfl, rfl⟩
def Sta.rule7 (s : Sta) (m : Mc) (a : Ac) (N : Nat → Nat) : Bool := decide ((s.behindW m a).speed > m.lim) || (eqS a.kind sTick && !(s.behindW m a).safeB m N)
theorem c_rules4 (up : List Ces) (m : Mc) (s : Sta) (a : Ac) (N : Nat → Nat) (hn : eqS a.kind sTick = true → (s.behindW m a).speed ≤ m.lim → ∀ k, k < 3 → (s.behindW m a).takes m (k : Nat) (N k) ∧ N k ≤ 1000000) :
    Cs gl n_control_rules_4 up [m.iv, s.iv, a.iv] (.bool (s.rule7 m a N)) up := by
  refine mk h_control_rules_4 rfl rfl ?_
  unfold Sta.rule7
  cases q : decide ((s.behindW m a).speed > m.lim) with
  | true =>
    conv => whnf
    repeat first
      | (refine DRAW.seek ?_; repeat (first | refine TRYD.take ?_ | refine TRYD.next ?_); conv => whnf)
      | (refine HOLD.mk (by first | exact trivial | exact ⟨⟨rfl, rfl⟩, trivial⟩ | exact ⟨⟨rfl, rfl⟩, ⟨rfl, rfl⟩, trivial⟩) ?_; (conv => whnf))
      | (refine CALL0.by (c_behind ..) rfl ?_; conv => whnf)
      | (refine CALLQ.mk _ _ _ (leL_refl _) (c_behind ..) rfl ?_; conv => whnf)
    split
    rotate_left
    · rename_i h
      exact Bool.noConfusion ((q).symm.trans h)
    rename_i hN
    clear hN
    conv => whnf
    exact ⟨rfl, rfl⟩
  | false =>
    cases q2 : eqS a.kind sTick with
    | false =>
      conv => whnf
      repeat first
        | (refine DRAW.seek ?_; repeat (first | refine TRYD.take ?_ | refine TRYD.next ?_); conv => whnf)
        | (refine HOLD.mk (by first | exact trivial | exact ⟨⟨rfl, rfl⟩, trivial⟩ | exact ⟨⟨rfl, rfl⟩, ⟨rfl, rfl⟩, trivial⟩) ?_; (conv => whnf))
        | (refine CALL0.by (c_behind ..) rfl ?_; conv => whnf)
        | (refine CALLQ.mk _ _ _ (leL_refl _) (c_behind ..) rfl ?_; conv => whnf)
      split
      · rename_i h
        exact Bool.noConfusion ((q).symm.trans h)
      rename_i hN
      clear hN
      conv => whnf
      split
      · rename_i h
        exact Bool.noConfusion ((q2).symm.trans h)
      rename_i hN
      clear hN
      conv => whnf
      exact ⟨rfl, rfl⟩
    | true =>
      have hs := fun up => c_safe (gl := gl) up (s.behindW m a) m N (hn q2 (by have := of_decide_eq_false q; omega))
      conv => whnf
      repeat first
        | (refine DRAW.seek ?_; repeat (first | refine TRYD.take ?_ | refine TRYD.next ?_); conv => whnf)
        | (refine HOLD.mk (by first | exact trivial | exact ⟨⟨rfl, rfl⟩, trivial⟩ | exact ⟨⟨rfl, rfl⟩, ⟨rfl, rfl⟩, trivial⟩) ?_; (conv => whnf))
        | (refine CALL0.by (c_behind ..) rfl ?_; conv => whnf)
        | (refine CALLQ.mk _ _ _ (leL_refl _) (c_behind ..) rfl ?_; conv => whnf)
      split
      · rename_i h
        exact Bool.noConfusion ((q).symm.trans h)
      rename_i hN
      clear hN
      conv => whnf
      split
      rotate_left
      · rename_i h
        exact Bool.noConfusion ((q2).symm.trans h)
      rename_i hN
      clear hN
      conv => whnf
      repeat first
        | (refine DRAW.seek ?_; repeat (first | refine TRYD.take ?_ | refine TRYD.next ?_); conv => whnf)
        | (refine HOLD.mk (by first | exact trivial | exact ⟨⟨rfl, rfl⟩, trivial⟩ | exact ⟨⟨rfl, rfl⟩, ⟨rfl, rfl⟩, trivial⟩) ?_; (conv => whnf))
        | (refine CALL0.by (hs ..) rfl ?_; conv => whnf)
        | (refine CALLQ.mk _ _ _ (leL_refl _) (hs ..) rfl ?_; conv => whnf)
      exact ⟨rfl, rfl⟩
end Go.Proofs.YtkdlegfakefjgaaGreatDoor.Ix

namespace Go.Proofs.YtkdlegfakefjgaaGreatDoor.Ix
open Go.Proofs
set_option maxRecDepth 100000
set_option linter.unusedVariables false
set_option linter.unusedSimpArgs false
variable {gl : Nat → IV}
def rulesI : IV := .agg [.str sStart, .str sRepair, .fn n_control_mode_1 [] [.vptr 1 1 (fun _ => [.str sIdle]) 0 0], .str sTick, .str sStop, .fn n_control_mode_1 [] [.vptr 1 1 (fun _ => [.str sRun]) 0 0], .str sBrake, .str sRest, .fn n_control_mode_1 [] [.vptr 1 1 (fun _ => [.str sStop]) 0 0], .str sStart, .str ByteArray.empty, .fn n_control_rules_1 [] [], .str sRest, .str ByteArray.empty, .fn n_control_rules_2 [] [], .str sTick, .str sBrake, .fn n_control_rules_3 [] [], .str sTick, .str sBrake, .fn n_control_rules_4 [] []]
theorem c_rules (up : List Ces) : Cs gl n_control_rules up [] rulesI up := by
  refine mk h_control_rules rfl rfl ?_
  conv => whnf
  repeat first
    | (refine DRAW.seek ?_; repeat (first | refine TRYD.take ?_ | refine TRYD.next ?_); conv => whnf)
    | (refine HOLD.mk (by first | exact trivial | exact ⟨⟨rfl, rfl⟩, trivial⟩ | exact ⟨⟨rfl, rfl⟩, ⟨rfl, rfl⟩, trivial⟩) ?_; (conv => whnf))
    | (refine CALL0.by (c_mode ..) rfl ?_; conv => whnf)
    | (refine CALLQ.mk _ _ _ (leL_refl _) (c_mode ..) rfl ?_; conv => whnf)
  exact ⟨rfl, rfl⟩
def inK (x k l : ByteArray) : Bool := decide (idxS x [k, l] 0 ≥ 0)
theorem c_Contains2 (up : List Ces) (x k l : ByteArray) (f : Nat → List IV) (h0 : f 0 = [.str k]) (h1 : f 1 = [.str l]) :
    Cs gl n_slices_Contains_string_string up [.lst none 1 2 f, .str x] (.bool (inK x k l)) up :=
  Comp.le (show leL [.lst none 1 2 f, .str x] [.lst none 1 2 fun i => [.str ([k, l].getD i ByteArray.empty)], .str x] from ⟨⟨.inl rfl, rfl, rfl, fun i hi => by
    match i, hi with
    | 0, _ => exact h0
    | 1, _ => exact h1⟩, leV_refl _, trivial⟩) (c_Contains up [k, l] (by simp) x)
def Sta.ruleB (s : Sta) (m : Mc) (a : Ac) (N : Nat → Nat) : Nat → Bool
  | 0 => inK a.kind sStart sRepair && (!eqS s.mode sIdle)
  | 1 => inK a.kind sTick sStop && (!eqS s.mode sRun)
  | 2 => inK a.kind sBrake sRest && (!eqS s.mode sStop)
  | 3 => inK a.kind sStart ByteArray.empty && s.rule4 m
  | 4 => inK a.kind sRest ByteArray.empty && s.rule5 m
  | 5 => inK a.kind sTick sBrake && s.rule6 a
  | 6 => inK a.kind sTick sBrake && s.rule7 m a N
  | _ => false
def firstT (f : Nat → Bool) : Nat → Nat → Int
  | 0, _ => 0
  | n + 1, i => bif f i then ((i + 1 : Nat) : Int) else firstT f n (i + 1)
def Sta.allowedW (s : Sta) (m : Mc) (a : Ac) (N : Nat → Nat) : Int := firstT (s.ruleB m a N) 7 0
theorem firstT_yes {f : Nat → Bool} {n i : Nat} (h : f i = true) : firstT f (n + 1) i = ((i + 1 : Nat) : Int) := by simp only [firstT, h]; rfl
theorem firstT_no {f : Nat → Bool} {n i : Nat} (h : f i = false) : firstT f (n + 1) i = firstT f n (i + 1) := by simp only [firstT, h]; rfl
set_option maxHeartbeats 16000000 in
theorem c_allowed (up : List Ces) (m : Mc) (s : Sta) (a : Ac) (N : Nat → Nat) (hn : eqS a.kind sTick = true → (s.behindW m a).speed ≤ m.lim → ∀ k, k < 3 → (s.behindW m a).takes m (k : Nat) (N k) ∧ N k ≤ 1000000) :
    Cs gl n_control_State_allowed up [s.iv, m.iv, a.iv] (.int .i64 (s.allowedW m a N)) up := by
  refine mk h_control_State_allowed rfl rfl ?_
  conv => whnf
  repeat first
    | (refine DRAW.seek ?_; repeat (first | refine TRYD.take ?_ | refine TRYD.next ?_); conv => whnf)
    | (refine HOLD.mk (by first | exact trivial | exact ⟨⟨rfl, rfl⟩, trivial⟩ | exact ⟨⟨rfl, rfl⟩, ⟨rfl, rfl⟩, trivial⟩) ?_; (conv => whnf))
    | (refine CALL0.by (c_rules ..) rfl ?_; conv => whnf)
    | (refine CALLQ.mk _ _ _ (leL_refl _) (c_rules ..) rfl ?_; conv => whnf)
  refine .mk (α := {k : Nat // k ≤ 7 ∧ s.allowedW m a N = firstT (s.ruleB m a N) (7 - k) k}) (fun k => ⟨[(11, .int .i64 k.1), (10, rulesI), (7, .int .i64 0), (3, .ptr 0 3 0), (4, .ptr 0 4 0), (5, .ptr 0 5 0)],
    [(5, [.str a.kind, .int .i64 a.wind, .int .i64 a.pitch, .int .i64 a.tor, .int .i64 a.stuck]), (4, m.cs), (3, s.cs)], up⟩) (fun k => 7 - k.1) ⟨0, Nat.zero_le _, rfl⟩ ⟨?_, ?_, rfl, rfl⟩ ?_
  · exact ⟨leV_refl _, leV_refl _, leV_refl _, leV_refl _, leV_refl _, leV_refl _, trivial⟩
  · exact ⟨leL_refl _, leL_refl _, leL_refl _, trivial⟩
  rintro ⟨k, hk, hf⟩
  obtain rfl | rfl | rfl | rfl | rfl | rfl | rfl | rfl : k = 0 ∨ k = 1 ∨ k = 2 ∨ k = 3 ∨ k = 4 ∨ k = 5 ∨ k = 6 ∨ k = 7 := by omega
  · cases q : inK a.kind sStart sRepair with
    | false =>
      have hr : s.ruleB m a N 0 = false := by
        show (inK a.kind sStart sRepair && _) = false
        rw [q]; rfl
      conv => whnf
      refine DRAW.mkS 9 _ rfl rfl 12 (by decide +kernel) ?_
      conv => whnf
      refine .mk _ _ _ (leL_refl _) (c_Contains2 _ a.kind sStart sRepair _ rfl rfl) rfl ?_
      conv => whnf
      split
      · rename_i h
        exact Bool.noConfusion ((q).symm.trans h)
      rename_i hN
      clear hN
      conv => whnf
      exact ⟨⟨1, by omega, hf.trans (firstT_no hr)⟩, ⟨⟨leV_refl _, leV_refl _, leV_refl _, leV_refl _, leV_refl _, leV_refl _, trivial⟩, ⟨leL_refl _, leL_refl _, leL_refl _, trivial⟩, rfl, rfl⟩, by simp⟩
    | true =>
      cases q2 : (!eqS s.mode sIdle) with
      | false =>
        have hr : s.ruleB m a N 0 = false := by
          show (inK a.kind sStart sRepair && (!eqS s.mode sIdle)) = false
          rw [q, q2]; rfl
        conv => whnf
        refine DRAW.mkS 9 _ rfl rfl 12 (by decide +kernel) ?_
        conv => whnf
        refine .mk _ _ _ (leL_refl _) (c_Contains2 _ a.kind sStart sRepair _ rfl rfl) rfl ?_
        conv => whnf
        split
        rotate_left
        · rename_i h
          exact Bool.noConfusion ((q).symm.trans h)
        rename_i hN
        clear hN
        conv => whnf
        refine .mk _ _ _ (leL_refl _) (c_mode1 _ m s a sIdle) rfl ?_
        conv => whnf
        split
        · rename_i h
          exact Bool.noConfusion ((q2).symm.trans h)
        rename_i hN
        clear hN
        conv => whnf
        exact ⟨⟨1, by omega, hf.trans (firstT_no hr)⟩, ⟨⟨leV_refl _, leV_refl _, leV_refl _, leV_refl _, leV_refl _, leV_refl _, trivial⟩, ⟨leL_refl _, leL_refl _, leL_refl _, trivial⟩, rfl, rfl⟩, by simp⟩
      | true =>
        have hr : s.ruleB m a N 0 = true := by
          show (inK a.kind sStart sRepair && (!eqS s.mode sIdle)) = true
          rw [q, q2]; rfl
        conv => whnf
        refine DRAW.mkS 9 _ rfl rfl 12 (by decide +kernel) ?_
        conv => whnf
        refine .mk _ _ _ (leL_refl _) (c_Contains2 _ a.kind sStart sRepair _ rfl rfl) rfl ?_
        conv => whnf
        split
        rotate_left
        · rename_i h
          exact Bool.noConfusion ((q).symm.trans h)
        rename_i hN
        clear hN
        conv => whnf
        refine .mk _ _ _ (leL_refl _) (c_mode1 _ m s a sIdle) rfl ?_
        conv => whnf
        split
        rotate_left
        · rename_i h
          exact Bool.noConfusion ((q2).symm.trans h)
        rename_i hN
        clear hN
        conv => whnf
        exact ⟨congrArg (IV.int .i64) (Eq.symm (hf.trans (firstT_yes hr))), rfl⟩
  · cases q : inK a.kind sTick sStop with
    | false =>
      have hr : s.ruleB m a N 1 = false := by
        show (inK a.kind sTick sStop && _) = false
        rw [q]; rfl
      conv => whnf
      refine DRAW.mkS 9 _ rfl rfl 12 (by decide +kernel) ?_
      conv => whnf
      refine .mk _ _ _ (leL_refl _) (c_Contains2 _ a.kind sTick sStop _ rfl rfl) rfl ?_
      conv => whnf
      split
      · rename_i h
        exact Bool.noConfusion ((q).symm.trans h)
      rename_i hN
      clear hN
      conv => whnf
      exact ⟨⟨2, by omega, hf.trans (firstT_no hr)⟩, ⟨⟨leV_refl _, leV_refl _, leV_refl _, leV_refl _, leV_refl _, leV_refl _, trivial⟩, ⟨leL_refl _, leL_refl _, leL_refl _, trivial⟩, rfl, rfl⟩, by simp⟩
    | true =>
      cases q2 : (!eqS s.mode sRun) with
      | false =>
        have hr : s.ruleB m a N 1 = false := by
          show (inK a.kind sTick sStop && (!eqS s.mode sRun)) = false
          rw [q, q2]; rfl
        conv => whnf
        refine DRAW.mkS 9 _ rfl rfl 12 (by decide +kernel) ?_
        conv => whnf
        refine .mk _ _ _ (leL_refl _) (c_Contains2 _ a.kind sTick sStop _ rfl rfl) rfl ?_
        conv => whnf
        split
        rotate_left
        · rename_i h
          exact Bool.noConfusion ((q).symm.trans h)
        rename_i hN
        clear hN
        conv => whnf
        refine .mk _ _ _ (leL_refl _) (c_mode1 _ m s a sRun) rfl ?_
        conv => whnf
        split
        · rename_i h
          exact Bool.noConfusion ((q2).symm.trans h)
        rename_i hN
        clear hN
        conv => whnf
        exact ⟨⟨2, by omega, hf.trans (firstT_no hr)⟩, ⟨⟨leV_refl _, leV_refl _, leV_refl _, leV_refl _, leV_refl _, leV_refl _, trivial⟩, ⟨leL_refl _, leL_refl _, leL_refl _, trivial⟩, rfl, rfl⟩, by simp⟩
      | true =>
        have hr : s.ruleB m a N 1 = true := by
          show (inK a.kind sTick sStop && (!eqS s.mode sRun)) = true
          rw [q, q2]; rfl
        conv => whnf
        refine DRAW.mkS 9 _ rfl rfl 12 (by decide +kernel) ?_
        conv => whnf
        refine .mk _ _ _ (leL_refl _) (c_Contains2 _ a.kind sTick sStop _ rfl rfl) rfl ?_
        conv => whnf
        split
        rotate_left
        · rename_i h
          exact Bool.noConfusion ((q).symm.trans h)
        rename_i hN
        clear hN
        conv => whnf
        refine .mk _ _ _ (leL_refl _) (c_mode1 _ m s a sRun) rfl ?_
        conv => whnf
        split
        rotate_left
        · rename_i h
          exact Bool.noConfusion ((q2).symm.trans h)
        rename_i hN
        clear hN
        conv => whnf
        exact ⟨congrArg (IV.int .i64) (Eq.symm (hf.trans (firstT_yes hr))), rfl⟩
  · cases q : inK a.kind sBrake sRest with
    | false =>
      have hr : s.ruleB m a N 2 = false := by
        show (inK a.kind sBrake sRest && _) = false
        rw [q]; rfl
      conv => whnf
      refine DRAW.mkS 9 _ rfl rfl 12 (by decide +kernel) ?_
      conv => whnf
      refine .mk _ _ _ (leL_refl _) (c_Contains2 _ a.kind sBrake sRest _ rfl rfl) rfl ?_
      conv => whnf
      split
      · rename_i h
        exact Bool.noConfusion ((q).symm.trans h)
      rename_i hN
      clear hN
      conv => whnf
      exact ⟨⟨3, by omega, hf.trans (firstT_no hr)⟩, ⟨⟨leV_refl _, leV_refl _, leV_refl _, leV_refl _, leV_refl _, leV_refl _, trivial⟩, ⟨leL_refl _, leL_refl _, leL_refl _, trivial⟩, rfl, rfl⟩, by simp⟩
    | true =>
      cases q2 : (!eqS s.mode sStop) with
      | false =>
        have hr : s.ruleB m a N 2 = false := by
          show (inK a.kind sBrake sRest && (!eqS s.mode sStop)) = false
          rw [q, q2]; rfl
        conv => whnf
        refine DRAW.mkS 9 _ rfl rfl 12 (by decide +kernel) ?_
        conv => whnf
        refine .mk _ _ _ (leL_refl _) (c_Contains2 _ a.kind sBrake sRest _ rfl rfl) rfl ?_
        conv => whnf
        split
        rotate_left
        · rename_i h
          exact Bool.noConfusion ((q).symm.trans h)
        rename_i hN
        clear hN
        conv => whnf
        refine .mk _ _ _ (leL_refl _) (c_mode1 _ m s a sStop) rfl ?_
        conv => whnf
        split
        · rename_i h
          exact Bool.noConfusion ((q2).symm.trans h)
        rename_i hN
        clear hN
        conv => whnf
        exact ⟨⟨3, by omega, hf.trans (firstT_no hr)⟩, ⟨⟨leV_refl _, leV_refl _, leV_refl _, leV_refl _, leV_refl _, leV_refl _, trivial⟩, ⟨leL_refl _, leL_refl _, leL_refl _, trivial⟩, rfl, rfl⟩, by simp⟩
      | true =>
        have hr : s.ruleB m a N 2 = true := by
          show (inK a.kind sBrake sRest && (!eqS s.mode sStop)) = true
          rw [q, q2]; rfl
        conv => whnf
        refine DRAW.mkS 9 _ rfl rfl 12 (by decide +kernel) ?_
        conv => whnf
        refine .mk _ _ _ (leL_refl _) (c_Contains2 _ a.kind sBrake sRest _ rfl rfl) rfl ?_
        conv => whnf
        split
        rotate_left
        · rename_i h
          exact Bool.noConfusion ((q).symm.trans h)
        rename_i hN
        clear hN
        conv => whnf
        refine .mk _ _ _ (leL_refl _) (c_mode1 _ m s a sStop) rfl ?_
        conv => whnf
        split
        rotate_left
        · rename_i h
          exact Bool.noConfusion ((q2).symm.trans h)
        rename_i hN
        clear hN
        conv => whnf
        exact ⟨congrArg (IV.int .i64) (Eq.symm (hf.trans (firstT_yes hr))), rfl⟩
  · cases q : inK a.kind sStart ByteArray.empty with
    | false =>
      have hr : s.ruleB m a N 3 = false := by
        show (inK a.kind sStart ByteArray.empty && _) = false
        rw [q]; rfl
      conv => whnf
      refine DRAW.mkS 9 _ rfl rfl 12 (by decide +kernel) ?_
      conv => whnf
      refine .mk _ _ _ (leL_refl _) (c_Contains2 _ a.kind sStart ByteArray.empty _ rfl rfl) rfl ?_
      conv => whnf
      split
      · rename_i h
        exact Bool.noConfusion ((q).symm.trans h)
      rename_i hN
      clear hN
      conv => whnf
      exact ⟨⟨4, by omega, hf.trans (firstT_no hr)⟩, ⟨⟨leV_refl _, leV_refl _, leV_refl _, leV_refl _, leV_refl _, leV_refl _, trivial⟩, ⟨leL_refl _, leL_refl _, leL_refl _, trivial⟩, rfl, rfl⟩, by simp⟩
    | true =>
      cases q2 : s.rule4 m with
      | false =>
        have hr : s.ruleB m a N 3 = false := by
          show (inK a.kind sStart ByteArray.empty && s.rule4 m) = false
          rw [q, q2]; rfl
        conv => whnf
        refine DRAW.mkS 9 _ rfl rfl 12 (by decide +kernel) ?_
        conv => whnf
        refine .mk _ _ _ (leL_refl _) (c_Contains2 _ a.kind sStart ByteArray.empty _ rfl rfl) rfl ?_
        conv => whnf
        split
        rotate_left
        · rename_i h
          exact Bool.noConfusion ((q).symm.trans h)
        rename_i hN
        clear hN
        conv => whnf
        refine .mk _ _ _ (leL_refl _) (c_rules1 _ m s a) rfl ?_
        conv => whnf
        split
        · rename_i h
          exact Bool.noConfusion ((q2).symm.trans h)
        rename_i hN
        clear hN
        conv => whnf
        exact ⟨⟨4, by omega, hf.trans (firstT_no hr)⟩, ⟨⟨leV_refl _, leV_refl _, leV_refl _, leV_refl _, leV_refl _, leV_refl _, trivial⟩, ⟨leL_refl _, leL_refl _, leL_refl _, trivial⟩, rfl, rfl⟩, by simp⟩
      | true =>
        have hr : s.ruleB m a N 3 = true := by
          show (inK a.kind sStart ByteArray.empty && s.rule4 m) = true
          rw [q, q2]; rfl
        conv => whnf
        refine DRAW.mkS 9 _ rfl rfl 12 (by decide +kernel) ?_
        conv => whnf
        refine .mk _ _ _ (leL_refl _) (c_Contains2 _ a.kind sStart ByteArray.empty _ rfl rfl) rfl ?_
        conv => whnf
        split
        rotate_left
        · rename_i h
          exact Bool.noConfusion ((q).symm.trans h)
        rename_i hN
        clear hN
        conv => whnf
        refine .mk _ _ _ (leL_refl _) (c_rules1 _ m s a) rfl ?_
        conv => whnf
        split
        rotate_left
        · rename_i h
          exact Bool.noConfusion ((q2).symm.trans h)
        rename_i hN
        clear hN
        conv => whnf
        exact ⟨congrArg (IV.int .i64) (Eq.symm (hf.trans (firstT_yes hr))), rfl⟩
  · cases q : inK a.kind sRest ByteArray.empty with
    | false =>
      have hr : s.ruleB m a N 4 = false := by
        show (inK a.kind sRest ByteArray.empty && _) = false
        rw [q]; rfl
      conv => whnf
      refine DRAW.mkS 9 _ rfl rfl 12 (by decide +kernel) ?_
      conv => whnf
      refine .mk _ _ _ (leL_refl _) (c_Contains2 _ a.kind sRest ByteArray.empty _ rfl rfl) rfl ?_
      conv => whnf
      split
      · rename_i h
        exact Bool.noConfusion ((q).symm.trans h)
      rename_i hN
      clear hN
      conv => whnf
      exact ⟨⟨5, by omega, hf.trans (firstT_no hr)⟩, ⟨⟨leV_refl _, leV_refl _, leV_refl _, leV_refl _, leV_refl _, leV_refl _, trivial⟩, ⟨leL_refl _, leL_refl _, leL_refl _, trivial⟩, rfl, rfl⟩, by simp⟩
    | true =>
      cases q2 : s.rule5 m with
      | false =>
        have hr : s.ruleB m a N 4 = false := by
          show (inK a.kind sRest ByteArray.empty && s.rule5 m) = false
          rw [q, q2]; rfl
        conv => whnf
        refine DRAW.mkS 9 _ rfl rfl 12 (by decide +kernel) ?_
        conv => whnf
        refine .mk _ _ _ (leL_refl _) (c_Contains2 _ a.kind sRest ByteArray.empty _ rfl rfl) rfl ?_
        conv => whnf
        split
        rotate_left
        · rename_i h
          exact Bool.noConfusion ((q).symm.trans h)
        rename_i hN
        clear hN
        conv => whnf
        refine .mk _ _ _ (leL_refl _) (c_rules2 _ m s a) rfl ?_
        conv => whnf
        split
        · rename_i h
          exact Bool.noConfusion ((q2).symm.trans h)
        rename_i hN
        clear hN
        conv => whnf
        exact ⟨⟨5, by omega, hf.trans (firstT_no hr)⟩, ⟨⟨leV_refl _, leV_refl _, leV_refl _, leV_refl _, leV_refl _, leV_refl _, trivial⟩, ⟨leL_refl _, leL_refl _, leL_refl _, trivial⟩, rfl, rfl⟩, by simp⟩
      | true =>
        have hr : s.ruleB m a N 4 = true := by
          show (inK a.kind sRest ByteArray.empty && s.rule5 m) = true
          rw [q, q2]; rfl
        conv => whnf
        refine DRAW.mkS 9 _ rfl rfl 12 (by decide +kernel) ?_
        conv => whnf
        refine .mk _ _ _ (leL_refl _) (c_Contains2 _ a.kind sRest ByteArray.empty _ rfl rfl) rfl ?_
        conv => whnf
        split
        rotate_left
        · rename_i h
          exact Bool.noConfusion ((q).symm.trans h)
        rename_i hN
        clear hN
        conv => whnf
        refine .mk _ _ _ (leL_refl _) (c_rules2 _ m s a) rfl ?_
        conv => whnf
        split
        rotate_left
        · rename_i h
          exact Bool.noConfusion ((q2).symm.trans h)
        rename_i hN
        clear hN
        conv => whnf
        exact ⟨congrArg (IV.int .i64) (Eq.symm (hf.trans (firstT_yes hr))), rfl⟩
  · cases q : inK a.kind sTick sBrake with
    | false =>
      have hr : s.ruleB m a N 5 = false := by
        show (inK a.kind sTick sBrake && _) = false
        rw [q]; rfl
      conv => whnf
      refine DRAW.mkS 9 _ rfl rfl 12 (by decide +kernel) ?_
      conv => whnf
      refine .mk _ _ _ (leL_refl _) (c_Contains2 _ a.kind sTick sBrake _ rfl rfl) rfl ?_
      conv => whnf
      split
      · rename_i h
        exact Bool.noConfusion ((q).symm.trans h)
      rename_i hN
      clear hN
      conv => whnf
      exact ⟨⟨6, by omega, hf.trans (firstT_no hr)⟩, ⟨⟨leV_refl _, leV_refl _, leV_refl _, leV_refl _, leV_refl _, leV_refl _, trivial⟩, ⟨leL_refl _, leL_refl _, leL_refl _, trivial⟩, rfl, rfl⟩, by simp⟩
    | true =>
      cases q2 : s.rule6 a with
      | false =>
        have hr : s.ruleB m a N 5 = false := by
          show (inK a.kind sTick sBrake && s.rule6 a) = false
          rw [q, q2]; rfl
        conv => whnf
        refine DRAW.mkS 9 _ rfl rfl 12 (by decide +kernel) ?_
        conv => whnf
        refine .mk _ _ _ (leL_refl _) (c_Contains2 _ a.kind sTick sBrake _ rfl rfl) rfl ?_
        conv => whnf
        split
        rotate_left
        · rename_i h
          exact Bool.noConfusion ((q).symm.trans h)
        rename_i hN
        clear hN
        conv => whnf
        refine .mk _ _ _ (leL_refl _) (c_rules3 _ m s a) rfl ?_
        conv => whnf
        split
        · rename_i h
          exact Bool.noConfusion ((q2).symm.trans h)
        rename_i hN
        clear hN
        conv => whnf
        exact ⟨⟨6, by omega, hf.trans (firstT_no hr)⟩, ⟨⟨leV_refl _, leV_refl _, leV_refl _, leV_refl _, leV_refl _, leV_refl _, trivial⟩, ⟨leL_refl _, leL_refl _, leL_refl _, trivial⟩, rfl, rfl⟩, by simp⟩
      | true =>
        have hr : s.ruleB m a N 5 = true := by
          show (inK a.kind sTick sBrake && s.rule6 a) = true
          rw [q, q2]; rfl
        conv => whnf
        refine DRAW.mkS 9 _ rfl rfl 12 (by decide +kernel) ?_
        conv => whnf
        refine .mk _ _ _ (leL_refl _) (c_Contains2 _ a.kind sTick sBrake _ rfl rfl) rfl ?_
        conv => whnf
        split
        rotate_left
        · rename_i h
          exact Bool.noConfusion ((q).symm.trans h)
        rename_i hN
        clear hN
        conv => whnf
        refine .mk _ _ _ (leL_refl _) (c_rules3 _ m s a) rfl ?_
        conv => whnf
        split
        rotate_left
        · rename_i h
          exact Bool.noConfusion ((q2).symm.trans h)
        rename_i hN
        clear hN
        conv => whnf
        exact ⟨congrArg (IV.int .i64) (Eq.symm (hf.trans (firstT_yes hr))), rfl⟩
  · cases q : inK a.kind sTick sBrake with
    | false =>
      have hr : s.ruleB m a N 6 = false := by
        show (inK a.kind sTick sBrake && _) = false
        rw [q]; rfl
      conv => whnf
      refine DRAW.mkS 9 _ rfl rfl 12 (by decide +kernel) ?_
      conv => whnf
      refine .mk _ _ _ (leL_refl _) (c_Contains2 _ a.kind sTick sBrake _ rfl rfl) rfl ?_
      conv => whnf
      split
      · rename_i h
        exact Bool.noConfusion ((q).symm.trans h)
      rename_i hN
      clear hN
      conv => whnf
      exact ⟨⟨7, by omega, hf.trans (firstT_no hr)⟩, ⟨⟨leV_refl _, leV_refl _, leV_refl _, leV_refl _, leV_refl _, leV_refl _, trivial⟩, ⟨leL_refl _, leL_refl _, leL_refl _, trivial⟩, rfl, rfl⟩, by simp⟩
    | true =>
      cases q2 : s.rule7 m a N with
      | false =>
        have hr : s.ruleB m a N 6 = false := by
          show (inK a.kind sTick sBrake && s.rule7 m a N) = false
          rw [q, q2]; rfl
        conv => whnf
        refine DRAW.mkS 9 _ rfl rfl 12 (by decide +kernel) ?_
        conv => whnf
        refine .mk _ _ _ (leL_refl _) (c_Contains2 _ a.kind sTick sBrake _ rfl rfl) rfl ?_
        conv => whnf
        split
        rotate_left
        · rename_i h
          exact Bool.noConfusion ((q).symm.trans h)
        rename_i hN
        clear hN
        conv => whnf
        refine .mk _ _ _ (leL_refl _) (c_rules4 _ m s a N hn) rfl ?_
        conv => whnf
        split
        · rename_i h
          exact Bool.noConfusion ((q2).symm.trans h)
        rename_i hN
        clear hN
        conv => whnf
        exact ⟨⟨7, by omega, hf.trans (firstT_no hr)⟩, ⟨⟨leV_refl _, leV_refl _, leV_refl _, leV_refl _, leV_refl _, leV_refl _, trivial⟩, ⟨leL_refl _, leL_refl _, leL_refl _, trivial⟩, rfl, rfl⟩, by simp⟩
      | true =>
        have hr : s.ruleB m a N 6 = true := by
          show (inK a.kind sTick sBrake && s.rule7 m a N) = true
          rw [q, q2]; rfl
        conv => whnf
        refine DRAW.mkS 9 _ rfl rfl 12 (by decide +kernel) ?_
        conv => whnf
        refine .mk _ _ _ (leL_refl _) (c_Contains2 _ a.kind sTick sBrake _ rfl rfl) rfl ?_
        conv => whnf
        split
        rotate_left
        · rename_i h
          exact Bool.noConfusion ((q).symm.trans h)
        rename_i hN
        clear hN
        conv => whnf
        refine .mk _ _ _ (leL_refl _) (c_rules4 _ m s a N hn) rfl ?_
        conv => whnf
        split
        rotate_left
        · rename_i h
          exact Bool.noConfusion ((q2).symm.trans h)
        rename_i hN
        clear hN
        conv => whnf
        exact ⟨congrArg (IV.int .i64) (Eq.symm (hf.trans (firstT_yes hr))), rfl⟩
  · conv => whnf
    exact ⟨congrArg (IV.int .i64) (Eq.symm hf), rfl⟩
end Go.Proofs.YtkdlegfakefjgaaGreatDoor.Ix
