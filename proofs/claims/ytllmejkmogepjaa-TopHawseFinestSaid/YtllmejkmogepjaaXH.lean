/- The head of the seat: its types, its functions by name. Written by header.py. -/
import Derived.Test.YtllmejkmogepjaaX16
import Derived.Test.YtllmejkmogepjaaX28
import Derived.Test.YtllmejkmogepjaaProg
namespace Go.Proofs.Ytllmejkmogepjaa.Ix
open Go.Proofs
def T (t : Nat) : Ty := match Nat.blt t 117 with
 | false => Ty.none
 | true => (match Nat.ble 58 t with
 | true => (match Nat.ble 87 t with
 | true => (match Nat.ble 100 t with
 | true => (match Nat.ble 110 t with
 | true => (match Nat.ble 113 t with
 | true => (match Nat.ble 115 t with
 | true => (match Nat.ble 116 t with
 | true => (match Nat.beq t 116 with | true => ⟨1, 8, false, [.lit (.pointer none)], [], .other⟩ | false => Ty.none)
 | false => (match Nat.beq t 115 with | true => ⟨11, 48, true, [.int .u64 0, .int .u64 0, .int .u32 0, .int .u8 0, .int .u8 0, .int .u8 0, .int .u8 0, .lit .nilFunc, .lit (.pointer none), .int .i32 0, .int .i32 0], [], .struct [(0, 1, false), (1, 1, false), (2, 1, false), (3, 1, false), (4, 1, false), (5, 1, false), (6, 1, false), (7, 1, false), (8, 1, false), (9, 1, false), (10, 1, false)]⟩ | false => Ty.none))
 | false => (match Nat.ble 114 t with
 | true => (match Nat.beq t 114 with | true => ⟨11, 48, true, [.int .u64 0, .int .u64 0, .int .u32 0, .int .u8 0, .int .u8 0, .int .u8 0, .int .u8 0, .lit .nilFunc, .lit (.pointer none), .int .i32 0, .int .i32 0], [], .struct [(0, 1, false), (1, 1, false), (2, 1, false), (3, 1, false), (4, 1, false), (5, 1, false), (6, 1, false), (7, 1, false), (8, 1, false), (9, 1, false), (10, 1, false)]⟩ | false => Ty.none)
 | false => (match Nat.beq t 113 with | true => ⟨1, 4, false, [.int .i32 0], [], .other⟩ | false => Ty.none)))
 | false => (match Nat.ble 111 t with
 | true => (match Nat.ble 112 t with
 | true => (match Nat.beq t 112 with | true => ⟨1, 4, false, [.int .i32 0], [], .other⟩ | false => Ty.none)
 | false => (match Nat.beq t 111 with | true => ⟨1, 8, false, [.lit (.pointer none)], [], .other⟩ | false => Ty.none))
 | false => (match Nat.beq t 110 with | true => ⟨1, 8, false, [.lit .nilFunc], [], .other⟩ | false => Ty.none)))
 | false => (match Nat.ble 103 t with
 | true => (match Nat.ble 108 t with
 | true => (match Nat.ble 109 t with
 | true => (match Nat.beq t 109 with | true => ⟨1, 1, false, [.int .u8 0], [], .other⟩ | false => Ty.none)
 | false => (match Nat.beq t 108 with | true => ⟨1, 1, false, [.int .u8 0], [], .other⟩ | false => Ty.none))
 | false => (match Nat.ble 107 t with
 | true => (match Nat.beq t 107 with | true => ⟨1, 4, false, [.int .u32 0], [], .other⟩ | false => Ty.none)
 | false => (match Nat.beq t 103 with | true => ⟨4, 40, true, [.lit (.pointer none), .lit (.pointer none), .lit (.pointer none), .str ByteArray.empty], [], .struct [(0, 1, false), (1, 1, false), (2, 1, false), (3, 1, false)]⟩ | false => Ty.none)))
 | false => (match Nat.ble 101 t with
 | true => (match Nat.ble 102 t with
 | true => (match Nat.beq t 102 with | true => ⟨4, 40, true, [.lit (.pointer none), .lit (.pointer none), .lit (.pointer none), .str ByteArray.empty], [], .struct [(0, 1, false), (1, 1, false), (2, 1, false), (3, 1, false)]⟩ | false => Ty.none)
 | false => (match Nat.beq t 101 with | true => ⟨1, 8, false, [.lit .nilFunc], [], .other⟩ | false => Ty.none))
 | false => (match Nat.beq t 100 with | true => ⟨1, 8, false, [.lit .nilFunc], [], .other⟩ | false => Ty.none))))
 | false => (match Nat.ble 93 t with
 | true => (match Nat.ble 96 t with
 | true => (match Nat.ble 98 t with
 | true => (match Nat.ble 99 t with
 | true => (match Nat.beq t 99 with | true => ⟨1, 8, false, [.lit .nilFunc], [], .other⟩ | false => Ty.none)
 | false => (match Nat.beq t 98 with | true => ⟨1, 8, false, [.lit .nilFunc], [], .other⟩ | false => Ty.none))
 | false => (match Nat.ble 97 t with
 | true => (match Nat.beq t 97 with | true => ⟨1, 8, false, [.lit .nilFunc], [], .other⟩ | false => Ty.none)
 | false => (match Nat.beq t 96 with | true => ⟨1, 8, false, [.lit .nilFunc], [], .other⟩ | false => Ty.none)))
 | false => (match Nat.ble 94 t with
 | true => (match Nat.ble 95 t with
 | true => (match Nat.beq t 95 with | true => ⟨1, 8, false, [.lit .nilFunc], [], .other⟩ | false => Ty.none)
 | false => (match Nat.beq t 94 with | true => ⟨1, 8, false, [.lit .nilFunc], [], .other⟩ | false => Ty.none))
 | false => (match Nat.beq t 93 with | true => ⟨1, 8, false, [.lit .nilFunc], [], .other⟩ | false => Ty.none)))
 | false => (match Nat.ble 90 t with
 | true => (match Nat.ble 91 t with
 | true => (match Nat.ble 92 t with
 | true => (match Nat.beq t 92 with | true => ⟨1, 8, false, [.lit .nilFunc], [], .other⟩ | false => Ty.none)
 | false => (match Nat.beq t 91 with | true => ⟨1, 8, false, [.lit .nilFunc], [], .other⟩ | false => Ty.none))
 | false => (match Nat.beq t 90 with | true => ⟨1, 24, false, [.nilS], [], .slice 35⟩ | false => Ty.none))
 | false => (match Nat.ble 88 t with
 | true => (match Nat.ble 89 t with
 | true => (match Nat.beq t 89 with | true => ⟨1, 8, false, [.lit .nilFunc], [], .other⟩ | false => Ty.none)
 | false => (match Nat.beq t 88 with | true => ⟨1, 8, false, [.lit .nilFunc], [], .other⟩ | false => Ty.none))
 | false => (match Nat.beq t 87 with | true => ⟨1, 8, false, [.lit .nilFunc], [], .other⟩ | false => Ty.none)))))
 | false => (match Nat.ble 72 t with
 | true => (match Nat.ble 80 t with
 | true => (match Nat.ble 83 t with
 | true => (match Nat.ble 85 t with
 | true => (match Nat.ble 86 t with
 | true => (match Nat.beq t 86 with | true => ⟨1, 8, false, [.lit .nilFunc], [], .other⟩ | false => Ty.none)
 | false => (match Nat.beq t 85 with | true => ⟨1, 8, false, [.lit .nilFunc], [], .other⟩ | false => Ty.none))
 | false => (match Nat.ble 84 t with
 | true => (match Nat.beq t 84 with | true => ⟨1, 8, false, [.lit .nilFunc], [], .other⟩ | false => Ty.none)
 | false => (match Nat.beq t 83 with | true => ⟨1, 8, false, [.lit .nilFunc], [], .other⟩ | false => Ty.none)))
 | false => (match Nat.ble 81 t with
 | true => (match Nat.ble 82 t with
 | true => (match Nat.beq t 82 with | true => ⟨1, 8, false, [.lit .nilFunc], [], .other⟩ | false => Ty.none)
 | false => (match Nat.beq t 81 with | true => ⟨1, 8, false, [.lit .nilFunc], [], .other⟩ | false => Ty.none))
 | false => (match Nat.beq t 80 with | true => ⟨1, 8, false, [.lit .nilFunc], [], .other⟩ | false => Ty.none)))
 | false => (match Nat.ble 75 t with
 | true => (match Nat.ble 77 t with
 | true => (match Nat.ble 79 t with
 | true => (match Nat.beq t 79 with | true => ⟨1, 8, false, [.lit .nilFunc], [], .other⟩ | false => Ty.none)
 | false => (match Nat.beq t 77 with | true => ⟨1, 24, false, [.nilS], [], .slice 48⟩ | false => Ty.none))
 | false => (match Nat.ble 76 t with
 | true => (match Nat.beq t 76 with | true => ⟨1, 8, false, [.lit .nilFunc], [], .other⟩ | false => Ty.none)
 | false => (match Nat.beq t 75 with | true => ⟨1, 8, false, [.lit .nilFunc], [], .other⟩ | false => Ty.none)))
 | false => (match Nat.ble 73 t with
 | true => (match Nat.ble 74 t with
 | true => (match Nat.beq t 74 with | true => ⟨1, 8, false, [.lit .nilFunc], [], .other⟩ | false => Ty.none)
 | false => (match Nat.beq t 73 with | true => ⟨1, 8, false, [.lit .nilFunc], [], .other⟩ | false => Ty.none))
 | false => (match Nat.beq t 72 with | true => ⟨1, 8, false, [.lit .nilFunc], [], .other⟩ | false => Ty.none))))
 | false => (match Nat.ble 64 t with
 | true => (match Nat.ble 68 t with
 | true => (match Nat.ble 70 t with
 | true => (match Nat.ble 71 t with
 | true => (match Nat.beq t 71 with | true => ⟨4, 32, true, [.int .i64 0, .int .i64 0, .int .i64 0, .int .i64 0], [.int, .int, .int, .int], .struct [(0, 1, false), (1, 1, false), (2, 1, false), (3, 1, false)]⟩ | false => Ty.none)
 | false => (match Nat.beq t 70 with | true => ⟨1, 8, false, [.lit .nilFunc], [], .other⟩ | false => Ty.none))
 | false => (match Nat.ble 69 t with
 | true => (match Nat.beq t 69 with | true => ⟨1, 8, false, [.lit .nilFunc], [], .other⟩ | false => Ty.none)
 | false => (match Nat.beq t 68 with | true => ⟨9, 104, true, [.nilS, .nilS, .int .i64 0, .int .i64 0, .int .i64 0, .int .i64 0, .int .i64 0, .int .i64 0, .int .i64 0], [], .struct [(0, 2, true), (2, 4, true), (6, 3, true)]⟩ | false => Ty.none)))
 | false => (match Nat.ble 65 t with
 | true => (match Nat.ble 67 t with
 | true => (match Nat.beq t 67 with | true => ⟨9, 104, true, [.nilS, .nilS, .int .i64 0, .int .i64 0, .int .i64 0, .int .i64 0, .int .i64 0, .int .i64 0, .int .i64 0], [], .struct [(0, 2, true), (2, 4, true), (6, 3, true)]⟩ | false => Ty.none)
 | false => (match Nat.beq t 65 with | true => ⟨1, 8, false, [.lit .nilFunc], [], .other⟩ | false => Ty.none))
 | false => (match Nat.beq t 64 with | true => ⟨1, 8, false, [.lit .nilFunc], [], .other⟩ | false => Ty.none)))
 | false => (match Nat.ble 61 t with
 | true => (match Nat.ble 62 t with
 | true => (match Nat.ble 63 t with
 | true => (match Nat.beq t 63 with | true => ⟨1, 8, false, [.lit .nilFunc], [], .other⟩ | false => Ty.none)
 | false => (match Nat.beq t 62 with | true => ⟨1, 8, false, [.lit .nilFunc], [], .other⟩ | false => Ty.none))
 | false => (match Nat.beq t 61 with | true => ⟨1, 8, false, [.lit .nilFunc], [], .other⟩ | false => Ty.none))
 | false => (match Nat.ble 59 t with
 | true => (match Nat.ble 60 t with
 | true => (match Nat.beq t 60 with | true => ⟨1, 8, false, [.lit .nilFunc], [], .other⟩ | false => Ty.none)
 | false => (match Nat.beq t 59 with | true => ⟨1, 8, false, [.lit .nilFunc], [], .other⟩ | false => Ty.none))
 | false => (match Nat.beq t 58 with | true => ⟨3, 24, true, [.int .i64 0, .int .i64 0, .int .i64 0], [.int, .int, .int], .array 3 3⟩ | false => Ty.none))))))
 | false => (match Nat.ble 27 t with
 | true => (match Nat.ble 41 t with
 | true => (match Nat.ble 50 t with
 | true => (match Nat.ble 53 t with
 | true => (match Nat.ble 55 t with
 | true => (match Nat.ble 57 t with
 | true => (match Nat.beq t 57 with | true => ⟨1, 8, false, [.lit .nilFunc], [], .other⟩ | false => Ty.none)
 | false => (match Nat.beq t 55 with | true => ⟨2, 16, true, [.int .i64 0, .int .i64 0], [.int, .int], .struct [(0, 1, false), (1, 1, false)]⟩ | false => Ty.none))
 | false => (match Nat.ble 54 t with
 | true => (match Nat.beq t 54 with | true => ⟨2, 16, true, [.int .i64 0, .int .i64 0], [.int, .int], .struct [(0, 1, false), (1, 1, false)]⟩ | false => Ty.none)
 | false => (match Nat.beq t 53 with | true => ⟨4, 32, true, [.int .i64 0, .int .i64 0, .int .i64 0, .int .i64 0], [.int, .int, .int, .int], .struct [(0, 1, false), (1, 1, false), (2, 1, false), (3, 1, false)]⟩ | false => Ty.none)))
 | false => (match Nat.ble 51 t with
 | true => (match Nat.ble 52 t with
 | true => (match Nat.beq t 52 with | true => ⟨4, 32, true, [.int .i64 0, .int .i64 0, .int .i64 0, .int .i64 0], [.int, .int, .int, .int], .struct [(0, 1, false), (1, 1, false), (2, 1, false), (3, 1, false)]⟩ | false => Ty.none)
 | false => (match Nat.beq t 51 with | true => ⟨1, 8, false, [.lit .nilFunc], [], .other⟩ | false => Ty.none))
 | false => (match Nat.beq t 50 with | true => ⟨1, 8, false, [.lit .nilFunc], [], .other⟩ | false => Ty.none)))
 | false => (match Nat.ble 44 t with
 | true => (match Nat.ble 47 t with
 | true => (match Nat.ble 48 t with
 | true => (match Nat.beq t 48 with | true => ⟨2, 16, true, [.int .i64 0, .int .i64 0], [.int, .int], .array 2 3⟩ | false => Ty.none)
 | false => (match Nat.beq t 47 with | true => ⟨1, 8, false, [.lit .nilFunc], [], .other⟩ | false => Ty.none))
 | false => (match Nat.ble 46 t with
 | true => (match Nat.beq t 46 with | true => ⟨1, 8, false, [.lit .nilFunc], [], .other⟩ | false => Ty.none)
 | false => (match Nat.beq t 44 with | true => ⟨1, 8, false, [.lit .nilFunc], [], .other⟩ | false => Ty.none)))
 | false => (match Nat.ble 42 t with
 | true => (match Nat.ble 43 t with
 | true => (match Nat.beq t 43 with | true => ⟨3, 24, true, [.int .i64 0, .int .i64 0, .int .i64 0], [.int, .int, .int], .struct [(0, 1, false), (1, 1, false), (2, 1, false)]⟩ | false => Ty.none)
 | false => (match Nat.beq t 42 with | true => ⟨1, 8, false, [.lit .nilFunc], [], .other⟩ | false => Ty.none))
 | false => (match Nat.beq t 41 with | true => ⟨3, 72, true, [.nilS, .nilS, .nilS], [], .struct [(0, 2, true), (2, 1, false)]⟩ | false => Ty.none))))
 | false => (match Nat.ble 33 t with
 | true => (match Nat.ble 37 t with
 | true => (match Nat.ble 39 t with
 | true => (match Nat.ble 40 t with
 | true => (match Nat.beq t 40 with | true => ⟨3, 72, true, [.nilS, .nilS, .nilS], [], .struct [(0, 2, true), (2, 1, false)]⟩ | false => Ty.none)
 | false => (match Nat.beq t 39 with | true => ⟨1, 24, false, [.nilS], [], .slice 53⟩ | false => Ty.none))
 | false => (match Nat.ble 38 t with
 | true => (match Nat.beq t 38 with | true => ⟨2, 48, true, [.nilS, .nilS], [], .struct [(0, 1, false), (1, 1, false)]⟩ | false => Ty.none)
 | false => (match Nat.beq t 37 with | true => ⟨1, 8, false, [.lit .nilFunc], [], .other⟩ | false => Ty.none)))
 | false => (match Nat.ble 34 t with
 | true => (match Nat.ble 35 t with
 | true => (match Nat.beq t 35 with | true => ⟨1, 8, false, [.int .i64 0], [], .other⟩ | false => Ty.none)
 | false => (match Nat.beq t 34 with | true => ⟨2, 16, true, [.int .i64 0, .int .i64 0], [.int, .int], .struct [(0, 1, false), (1, 1, false)]⟩ | false => Ty.none))
 | false => (match Nat.beq t 33 with | true => ⟨2, 16, true, [.int .i64 0, .int .i64 0], [.int, .int], .struct [(0, 1, false), (1, 1, false)]⟩ | false => Ty.none)))
 | false => (match Nat.ble 30 t with
 | true => (match Nat.ble 31 t with
 | true => (match Nat.ble 32 t with
 | true => (match Nat.beq t 32 with | true => ⟨1, 8, false, [.lit .nilFunc], [], .other⟩ | false => Ty.none)
 | false => (match Nat.beq t 31 with | true => ⟨1, 8, false, [.lit .nilFunc], [], .other⟩ | false => Ty.none))
 | false => (match Nat.beq t 30 with | true => ⟨2, 2, true, [.int .u8 0, .int .u8 0], [.int, .int], .array 2 5⟩ | false => Ty.none))
 | false => (match Nat.ble 28 t with
 | true => (match Nat.ble 29 t with
 | true => (match Nat.beq t 29 with | true => ⟨3, 24, true, [.int .i64 0, .int .i64 0, .int .i64 0], [.int, .int, .int], .struct [(0, 1, false), (1, 1, false), (2, 1, false)]⟩ | false => Ty.none)
 | false => (match Nat.beq t 28 with | true => ⟨3, 24, true, [.int .i64 0, .int .i64 0, .int .i64 0], [.int, .int, .int], .struct [(0, 1, false), (1, 1, false), (2, 1, false)]⟩ | false => Ty.none))
 | false => (match Nat.beq t 27 with | true => ⟨3, 72, true, [.nilS, .nilS, .nilS], [], .struct [(0, 2, true), (2, 1, false)]⟩ | false => Ty.none)))))
 | false => (match Nat.ble 14 t with
 | true => (match Nat.ble 20 t with
 | true => (match Nat.ble 23 t with
 | true => (match Nat.ble 25 t with
 | true => (match Nat.ble 26 t with
 | true => (match Nat.beq t 26 with | true => ⟨3, 72, true, [.nilS, .nilS, .nilS], [], .struct [(0, 2, true), (2, 1, false)]⟩ | false => Ty.none)
 | false => (match Nat.beq t 25 with | true => ⟨1, 24, false, [.nilS], [], .slice 71⟩ | false => Ty.none))
 | false => (match Nat.ble 24 t with
 | true => (match Nat.beq t 24 with | true => ⟨2, 48, true, [.nilS, .nilS], [], .struct [(0, 1, false), (1, 1, false)]⟩ | false => Ty.none)
 | false => (match Nat.beq t 23 with | true => ⟨2, 48, true, [.nilS, .nilS], [], .struct [(0, 1, false), (1, 1, false)]⟩ | false => Ty.none)))
 | false => (match Nat.ble 21 t with
 | true => (match Nat.ble 22 t with
 | true => (match Nat.beq t 22 with | true => ⟨1, 24, false, [.nilS], [], .slice 3⟩ | false => Ty.none)
 | false => (match Nat.beq t 21 with | true => ⟨1, 4, false, [.int .i32 0], [], .other⟩ | false => Ty.none))
 | false => (match Nat.beq t 20 with | true => ⟨1, 16, false, [.lit .nilIface], [], .other⟩ | false => Ty.none)))
 | false => (match Nat.ble 17 t with
 | true => (match Nat.ble 18 t with
 | true => (match Nat.ble 19 t with
 | true => (match Nat.beq t 19 with | true => ⟨1, 8, true, [.lit (.pointer none)], [], .struct [(0, 1, false)]⟩ | false => Ty.none)
 | false => (match Nat.beq t 18 with | true => ⟨1, 8, true, [.lit (.pointer none)], [], .struct [(0, 1, false)]⟩ | false => Ty.none))
 | false => (match Nat.beq t 17 with | true => ⟨1, 8, false, [.lit (.pointer none)], [], .other⟩ | false => Ty.none))
 | false => (match Nat.ble 15 t with
 | true => (match Nat.ble 16 t with
 | true => (match Nat.beq t 16 with | true => ⟨1, 8, false, [.lit (.pointer none)], [], .other⟩ | false => Ty.none)
 | false => (match Nat.beq t 15 with | true => ⟨1, 8, false, [.lit (.pointer none)], [], .other⟩ | false => Ty.none))
 | false => (match Nat.beq t 14 with | true => ⟨2, 24, true, [.str ByteArray.empty, .int .u64 0], [], .struct [(0, 1, false), (1, 1, false)]⟩ | false => Ty.none))))
 | false => (match Nat.ble 7 t with
 | true => (match Nat.ble 10 t with
 | true => (match Nat.ble 12 t with
 | true => (match Nat.ble 13 t with
 | true => (match Nat.beq t 13 with | true => ⟨2, 24, true, [.str ByteArray.empty, .int .u64 0], [], .struct [(0, 1, false), (1, 1, false)]⟩ | false => Ty.none)
 | false => (match Nat.beq t 12 with | true => ⟨1, 8, false, [.int .u64 0], [], .other⟩ | false => Ty.none))
 | false => (match Nat.ble 11 t with
 | true => (match Nat.beq t 11 with | true => ⟨1, 16, false, [.str ByteArray.empty], [], .str⟩ | false => Ty.none)
 | false => (match Nat.beq t 10 with | true => ⟨1, 16, false, [.str ByteArray.empty], [], .str⟩ | false => Ty.none)))
 | false => (match Nat.ble 8 t with
 | true => (match Nat.ble 9 t with
 | true => (match Nat.beq t 9 with | true => ⟨1, 16, false, [.str ByteArray.empty], [], .str⟩ | false => Ty.none)
 | false => (match Nat.beq t 8 with | true => ⟨4, 24, true, [.int .i64 0, .int .i64 0, .bool false, .int .u8 0], [], .struct [(0, 1, false), (1, 1, false), (2, 1, false), (3, 1, false)]⟩ | false => Ty.none))
 | false => (match Nat.beq t 7 with | true => ⟨4, 24, true, [.int .i64 0, .int .i64 0, .bool false, .int .u8 0], [], .struct [(0, 1, false), (1, 1, false), (2, 1, false), (3, 1, false)]⟩ | false => Ty.none)))
 | false => (match Nat.ble 4 t with
 | true => (match Nat.ble 5 t with
 | true => (match Nat.ble 6 t with
 | true => (match Nat.beq t 6 with | true => ⟨1, 1, false, [.int .u8 0], [], .other⟩ | false => Ty.none)
 | false => (match Nat.beq t 5 with | true => ⟨1, 1, false, [.int .u8 0], [], .other⟩ | false => Ty.none))
 | false => (match Nat.beq t 4 with | true => ⟨1, 1, false, [.bool false], [], .other⟩ | false => Ty.none))
 | false => (match Nat.ble 2 t with
 | true => (match Nat.ble 3 t with
 | true => (match Nat.beq t 3 with | true => ⟨1, 8, false, [.int .i64 0], [], .other⟩ | false => Ty.none)
 | false => (match Nat.beq t 2 with | true => ⟨1, 8, false, [.int .i64 0], [], .other⟩ | false => Ty.none))
 | false => (match Nat.beq t 1 with | true => ⟨1, 8, false, [.lit .nilFunc], [], .other⟩ | false => Ty.none)))))))

noncomputable abbrev prog : Program := Try.prog
set_option maxRecDepth 100000 in
theorem tok0 : TOK prog T := tok_of 117 (by kernel_rfl) (fun t h => by unfold T; rw [show Nat.blt t 117 = false from h])
theorem mixed0 : prog.follows .mixedOrders = true := by kernel_rfl
abbrev n_main_main : Nat := 0
noncomputable abbrev f_main_main : Func := Try.f0
theorem h_main_main : prog.funcs[n_main_main]? = some f_main_main := Try.func0
abbrev n_gosem_cut : Nat := 1
noncomputable abbrev f_gosem_cut : Func := Try.f1
theorem h_gosem_cut : prog.funcs[n_gosem_cut]? = some f_gosem_cut := Try.func1
abbrev n_gosem_cut_init : Nat := 2
noncomputable abbrev f_gosem_cut_init : Func := Try.f2
theorem h_gosem_cut_init : prog.funcs[n_gosem_cut_init]? = some f_gosem_cut_init := Try.func2
abbrev n_nacelletop_TopHawseFinest : Nat := 3
noncomputable abbrev f_nacelletop_TopHawseFinest : Func := Try.f3
theorem h_nacelletop_TopHawseFinest : prog.funcs[n_nacelletop_TopHawseFinest]? = some f_nacelletop_TopHawseFinest := Try.func3
abbrev n_nacelletop_hawseRotor : Nat := 4
noncomputable abbrev f_nacelletop_hawseRotor : Func := Try.f4
theorem h_nacelletop_hawseRotor : prog.funcs[n_nacelletop_hawseRotor]? = some f_nacelletop_hawseRotor := Try.func4
abbrev n_nacelletop_hawseLight : Nat := 5
noncomputable abbrev f_nacelletop_hawseLight : Func := Try.f5
theorem h_nacelletop_hawseLight : prog.funcs[n_nacelletop_hawseLight]? = some f_nacelletop_hawseLight := Try.func5
abbrev n_rotor_Find : Nat := 6
noncomputable abbrev f_rotor_Find : Func := Try.f6
theorem h_rotor_Find : prog.funcs[n_rotor_Find]? = some f_rotor_Find := Try.func6
abbrev n_nacelletop_hawseBlade : Nat := 7
noncomputable abbrev f_nacelletop_hawseBlade : Func := Try.f7
theorem h_nacelletop_hawseBlade : prog.funcs[n_nacelletop_hawseBlade]? = some f_nacelletop_hawseBlade := Try.func7
abbrev n_nacelletop_hawseFlow : Nat := 8
noncomputable abbrev f_nacelletop_hawseFlow : Func := Try.f8
theorem h_nacelletop_hawseFlow : prog.funcs[n_nacelletop_hawseFlow]? = some f_nacelletop_hawseFlow := Try.func8
abbrev n_rotor_Balance : Nat := 9
noncomputable abbrev f_rotor_Balance : Func := Try.f9
theorem h_rotor_Balance : prog.funcs[n_rotor_Balance]? = some f_rotor_Balance := Try.func9
abbrev n_rotor_Refine : Nat := 10
noncomputable abbrev f_rotor_Refine : Func := Try.f10
theorem h_rotor_Refine : prog.funcs[n_rotor_Refine]? = some f_rotor_Refine := Try.func10
abbrev n_rotor_Torque : Nat := 11
noncomputable abbrev f_rotor_Torque : Func := Try.f11
theorem h_rotor_Torque : prog.funcs[n_rotor_Torque]? = some f_rotor_Torque := Try.func11
abbrev n_rotor_Thrust : Nat := 12
noncomputable abbrev f_rotor_Thrust : Func := Try.f12
theorem h_rotor_Thrust : prog.funcs[n_rotor_Thrust]? = some f_rotor_Thrust := Try.func12
abbrev n_rotor_Split : Nat := 13
noncomputable abbrev f_rotor_Split : Func := Try.f13
theorem h_rotor_Split : prog.funcs[n_rotor_Split]? = some f_rotor_Split := Try.func13
abbrev n_rotor_Norm : Nat := 14
noncomputable abbrev f_rotor_Norm : Func := Try.f14
theorem h_rotor_Norm : prog.funcs[n_rotor_Norm]? = some f_rotor_Norm := Try.func14
abbrev n_nacelleref03_Short : Nat := 15
noncomputable abbrev f_nacelleref03_Short : Func := Try.f15
theorem h_nacelleref03_Short : prog.funcs[n_nacelleref03_Short]? = some f_nacelleref03_Short := Try.func15
abbrev n_nacelleref03_CheckBlade : Nat := 16
noncomputable abbrev f_nacelleref03_CheckBlade : Func := Try.f16
theorem h_nacelleref03_CheckBlade : prog.funcs[n_nacelleref03_CheckBlade]? = some f_nacelleref03_CheckBlade := Try.func16
abbrev n_nacelleref03_CheckFlow : Nat := 17
noncomputable abbrev f_nacelleref03_CheckFlow : Func := Try.f17
theorem h_nacelleref03_CheckFlow : prog.funcs[n_nacelleref03_CheckFlow]? = some f_nacelleref03_CheckFlow := Try.func17
abbrev n_nacelleref03_Light : Nat := 18
noncomputable abbrev f_nacelleref03_Light : Func := Try.f18
theorem h_nacelleref03_Light : prog.funcs[n_nacelleref03_Light]? = some f_nacelleref03_Light := Try.func18
abbrev n_rotor_first : Nat := 19
noncomputable abbrev f_rotor_first : Func := Try.f19
theorem h_rotor_first : prog.funcs[n_rotor_first]? = some f_rotor_first := Try.func19
abbrev n_rotor_checkRing : Nat := 20
noncomputable abbrev f_rotor_checkRing : Func := Try.f20
theorem h_rotor_checkRing : prog.funcs[n_rotor_checkRing]? = some f_rotor_checkRing := Try.func20
abbrev n_rotor_checkDepth : Nat := 21
noncomputable abbrev f_rotor_checkDepth : Func := Try.f21
theorem h_rotor_checkDepth : prog.funcs[n_rotor_checkDepth]? = some f_rotor_checkDepth := Try.func21
abbrev n_rotor_section_find : Nat := 22
noncomputable abbrev f_rotor_section_find : Func := Try.f22
theorem h_rotor_section_find : prog.funcs[n_rotor_section_find]? = some f_rotor_section_find := Try.func22
abbrev n_rotor_when : Nat := 23
noncomputable abbrev f_rotor_when : Func := Try.f23
theorem h_rotor_when : prog.funcs[n_rotor_when]? = some f_rotor_when := Try.func23
abbrev n_rotor_Induction_check : Nat := 24
noncomputable abbrev f_rotor_Induction_check : Func := Try.f24
theorem h_rotor_Induction_check : prog.funcs[n_rotor_Induction_check]? = some f_rotor_Induction_check := Try.func24
abbrev n_rotor_section_balance : Nat := 25
noncomputable abbrev f_rotor_section_balance : Func := Try.f25
theorem h_rotor_section_balance : prog.funcs[n_rotor_section_balance]? = some f_rotor_section_balance := Try.func25
abbrev n_rotor_CheckBracket : Nat := 26
noncomputable abbrev f_rotor_CheckBracket : Func := Try.f26
theorem h_rotor_CheckBracket : prog.funcs[n_rotor_CheckBracket]? = some f_rotor_CheckBracket := Try.func26
abbrev n_rotor_section_brackets : Nat := 27
noncomputable abbrev f_rotor_section_brackets : Func := Try.f27
theorem h_rotor_section_brackets : prog.funcs[n_rotor_section_brackets]? = some f_rotor_section_brackets := Try.func27
abbrev n_rotor_Induction_next : Nat := 28
noncomputable abbrev f_rotor_Induction_next : Func := Try.f28
theorem h_rotor_Induction_next : prog.funcs[n_rotor_Induction_next]? = some f_rotor_Induction_next := Try.func28
abbrev n_rotor_Rings : Nat := 29
noncomputable abbrev f_rotor_Rings : Func := Try.f29
theorem h_rotor_Rings : prog.funcs[n_rotor_Rings]? = some f_rotor_Rings := Try.func29
abbrev n_rotor_sum : Nat := 30
noncomputable abbrev f_rotor_sum : Func := Try.f30
theorem h_rotor_sum : prog.funcs[n_rotor_sum]? = some f_rotor_sum := Try.func30
abbrev n_rotor_checkAll : Nat := 31
noncomputable abbrev f_rotor_checkAll : Func := Try.f31
theorem h_rotor_checkAll : prog.funcs[n_rotor_checkAll]? = some f_rotor_checkAll := Try.func31
abbrev n_rotor_each : Nat := 32
noncomputable abbrev f_rotor_each : Func := Try.f32
theorem h_rotor_each : prog.funcs[n_rotor_each]? = some f_rotor_each := Try.func32
abbrev n_rotor_section_thrust : Nat := 33
noncomputable abbrev f_rotor_section_thrust : Func := Try.f33
theorem h_rotor_section_thrust : prog.funcs[n_rotor_section_thrust]? = some f_rotor_section_thrust := Try.func33
abbrev n_rotor_checkLoads : Nat := 34
noncomputable abbrev f_rotor_checkLoads : Func := Try.f34
theorem h_rotor_checkLoads : prog.funcs[n_rotor_checkLoads]? = some f_rotor_checkLoads := Try.func34
abbrev n_rotor_component : Nat := 35
noncomputable abbrev f_rotor_component : Func := Try.f35
theorem h_rotor_component : prog.funcs[n_rotor_component]? = some f_rotor_component := Try.func35
abbrev n_rotor_Pair_check : Nat := 36
noncomputable abbrev f_rotor_Pair_check : Func := Try.f36
theorem h_rotor_Pair_check : prog.funcs[n_rotor_Pair_check]? = some f_rotor_Pair_check := Try.func36
abbrev n_nacelleref03_CheckPolar : Nat := 37
noncomputable abbrev f_nacelleref03_CheckPolar : Func := Try.f37
theorem h_nacelleref03_CheckPolar : prog.funcs[n_nacelleref03_CheckPolar]? = some f_nacelleref03_CheckPolar := Try.func37
abbrev n_nacelleref01_First : Nat := 38
noncomputable abbrev f_nacelleref01_First : Func := Try.f38
theorem h_nacelleref01_First : prog.funcs[n_nacelleref01_First]? = some f_nacelleref01_First := Try.func38
abbrev n_nacelleref01_CheckRange : Nat := 39
noncomputable abbrev f_nacelleref01_CheckRange : Func := Try.f39
theorem h_nacelleref01_CheckRange : prog.funcs[n_nacelleref01_CheckRange]? = some f_nacelleref01_CheckRange := Try.func39
abbrev n_nacelleref03_CheckAngle : Nat := 40
noncomputable abbrev f_nacelleref03_CheckAngle : Func := Try.f40
theorem h_nacelleref03_CheckAngle : prog.funcs[n_nacelleref03_CheckAngle]? = some f_nacelleref03_CheckAngle := Try.func40
abbrev n_rotor_CheckBlade : Nat := 41
noncomputable abbrev f_rotor_CheckBlade : Func := Try.f41
theorem h_rotor_CheckBlade : prog.funcs[n_rotor_CheckBlade]? = some f_rotor_CheckBlade := Try.func41
abbrev n_rotor_CheckFlow : Nat := 42
noncomputable abbrev f_rotor_CheckFlow : Func := Try.f42
theorem h_rotor_CheckFlow : prog.funcs[n_rotor_CheckFlow]? = some f_rotor_CheckFlow := Try.func42
abbrev n_rotor_within : Nat := 43
noncomputable abbrev f_rotor_within : Func := Try.f43
theorem h_rotor_within : prog.funcs[n_rotor_within]? = some f_rotor_within := Try.func43
abbrev n_rotor_section_class : Nat := 44
noncomputable abbrev f_rotor_section_class : Func := Try.f44
theorem h_rotor_section_class : prog.funcs[n_rotor_section_class]? = some f_rotor_section_class := Try.func44
abbrev n_rotor_section_inflow : Nat := 45
noncomputable abbrev f_rotor_section_inflow : Func := Try.f45
theorem h_rotor_section_inflow : prog.funcs[n_rotor_section_inflow]? = some f_rotor_section_inflow := Try.func45
abbrev n_rotor_section_torque : Nat := 46
noncomputable abbrev f_rotor_section_torque : Func := Try.f46
theorem h_rotor_section_torque : prog.funcs[n_rotor_section_torque]? = some f_rotor_section_torque := Try.func46
abbrev n_rotor_sections : Nat := 47
noncomputable abbrev f_rotor_sections : Func := Try.f47
theorem h_rotor_sections : prog.funcs[n_rotor_sections]? = some f_rotor_sections := Try.func47
abbrev n_rotor_section_thrust_1 : Nat := 48
noncomputable abbrev f_rotor_section_thrust_1 : Func := Try.f48
theorem h_rotor_section_thrust_1 : prog.funcs[n_rotor_section_thrust_1]? = some f_rotor_section_thrust_1 := Try.func48
abbrev n_rotor_mapped_int_api_Errno : Nat := 49
noncomputable abbrev f_rotor_mapped_int_api_Errno : Func := Try.f49
theorem h_rotor_mapped_int_api_Errno : prog.funcs[n_rotor_mapped_int_api_Errno]? = some f_rotor_mapped_int_api_Errno := Try.func49
abbrev n_rotor_checkLoads_1 : Nat := 50
noncomputable abbrev f_rotor_checkLoads_1 : Func := Try.f50
theorem h_rotor_checkLoads_1 : prog.funcs[n_rotor_checkLoads_1]? = some f_rotor_checkLoads_1 := Try.func50
abbrev n_rotor_CheckPolar : Nat := 51
noncomputable abbrev f_rotor_CheckPolar : Func := Try.f51
theorem h_rotor_CheckPolar : prog.funcs[n_rotor_CheckPolar]? = some f_rotor_CheckPolar := Try.func51
abbrev n_rotor_Ring_check : Nat := 52
noncomputable abbrev f_rotor_Ring_check : Func := Try.f52
theorem h_rotor_Ring_check : prog.funcs[n_rotor_Ring_check]? = some f_rotor_Ring_check := Try.func52
abbrev n_rotor_section_shift : Nat := 53
noncomputable abbrev f_rotor_section_shift : Func := Try.f53
theorem h_rotor_section_shift : prog.funcs[n_rotor_section_shift]? = some f_rotor_section_shift := Try.func53
abbrev n_rotor_section_torque_1 : Nat := 54
noncomputable abbrev f_rotor_section_torque_1 : Func := Try.f54
theorem h_rotor_section_torque_1 : prog.funcs[n_rotor_section_torque_1]? = some f_rotor_section_torque_1 := Try.func54
abbrev n_rotor_sections_1 : Nat := 55
noncomputable abbrev f_rotor_sections_1 : Func := Try.f55
theorem h_rotor_sections_1 : prog.funcs[n_rotor_sections_1]? = some f_rotor_sections_1 := Try.func55
abbrev n_rotor_CheckPolar_1 : Nat := 56
noncomputable abbrev f_rotor_CheckPolar_1 : Func := Try.f56
theorem h_rotor_CheckPolar_1 : prog.funcs[n_rotor_CheckPolar_1]? = some f_rotor_CheckPolar_1 := Try.func56
abbrev n_runtime_boundsError_Error : Nat := 57
noncomputable abbrev f_runtime_boundsError_Error : Func := Try.f57
theorem h_runtime_boundsError_Error : prog.funcs[n_runtime_boundsError_Error]? = some f_runtime_boundsError_Error := Try.func57
abbrev n_runtime_boundsError_RuntimeError : Nat := 58
noncomputable abbrev f_runtime_boundsError_RuntimeError : Func := Try.f58
theorem h_runtime_boundsError_RuntimeError : prog.funcs[n_runtime_boundsError_RuntimeError]? = some f_runtime_boundsError_RuntimeError := Try.func58
abbrev n_runtime_errorString_Error : Nat := 59
noncomputable abbrev f_runtime_errorString_Error : Func := Try.f59
theorem h_runtime_errorString_Error : prog.funcs[n_runtime_errorString_Error]? = some f_runtime_errorString_Error := Try.func59
abbrev n_runtime_errorString_RuntimeError : Nat := 60
noncomputable abbrev f_runtime_errorString_RuntimeError : Func := Try.f60
theorem h_runtime_errorString_RuntimeError : prog.funcs[n_runtime_errorString_RuntimeError]? = some f_runtime_errorString_RuntimeError := Try.func60
abbrev n_runtime_plainError_Error : Nat := 61
noncomputable abbrev f_runtime_plainError_Error : Func := Try.f61
theorem h_runtime_plainError_Error : prog.funcs[n_runtime_plainError_Error]? = some f_runtime_plainError_Error := Try.func61
abbrev n_runtime_plainError_RuntimeError : Nat := 62
noncomputable abbrev f_runtime_plainError_RuntimeError : Func := Try.f62
theorem h_runtime_plainError_RuntimeError : prog.funcs[n_runtime_plainError_RuntimeError]? = some f_runtime_plainError_RuntimeError := Try.func62
abbrev n_runtime_errorAddressString_Error : Nat := 63
noncomputable abbrev f_runtime_errorAddressString_Error : Func := Try.f63
theorem h_runtime_errorAddressString_Error : prog.funcs[n_runtime_errorAddressString_Error]? = some f_runtime_errorAddressString_Error := Try.func63
abbrev n_runtime_errorAddressString_RuntimeError : Nat := 64
noncomputable abbrev f_runtime_errorAddressString_RuntimeError : Func := Try.f64
theorem h_runtime_errorAddressString_RuntimeError : prog.funcs[n_runtime_errorAddressString_RuntimeError]? = some f_runtime_errorAddressString_RuntimeError := Try.func64
abbrev n_runtime_TypeAssertionError_Error : Nat := 65
noncomputable abbrev f_runtime_TypeAssertionError_Error : Func := Try.f65
theorem h_runtime_TypeAssertionError_Error : prog.funcs[n_runtime_TypeAssertionError_Error]? = some f_runtime_TypeAssertionError_Error := Try.func65
abbrev n_runtime_TypeAssertionError_RuntimeError : Nat := 66
noncomputable abbrev f_runtime_TypeAssertionError_RuntimeError : Func := Try.f66
theorem h_runtime_TypeAssertionError_RuntimeError : prog.funcs[n_runtime_TypeAssertionError_RuntimeError]? = some f_runtime_TypeAssertionError_RuntimeError := Try.func66
abbrev n_runtime_PanicNilError_Error : Nat := 67
noncomputable abbrev f_runtime_PanicNilError_Error : Func := Try.f67
theorem h_runtime_PanicNilError_Error : prog.funcs[n_runtime_PanicNilError_Error]? = some f_runtime_PanicNilError_Error := Try.func67
abbrev n_runtime_PanicNilError_RuntimeError : Nat := 68
noncomputable abbrev f_runtime_PanicNilError_RuntimeError : Func := Try.f68
theorem h_runtime_PanicNilError_RuntimeError : prog.funcs[n_runtime_PanicNilError_RuntimeError]? = some f_runtime_PanicNilError_RuntimeError := Try.func68
abbrev n_internal_abi_Type_Align : Nat := 69
noncomputable abbrev f_internal_abi_Type_Align : Func := Try.f69
theorem h_internal_abi_Type_Align : prog.funcs[n_internal_abi_Type_Align]? = some f_internal_abi_Type_Align := Try.func69
abbrev n_internal_runtime_maps_unhashableTypeError_Error : Nat := 70
noncomputable abbrev f_internal_runtime_maps_unhashableTypeError_Error : Func := Try.f70
theorem h_internal_runtime_maps_unhashableTypeError_Error : prog.funcs[n_internal_runtime_maps_unhashableTypeError_Error]? = some f_internal_runtime_maps_unhashableTypeError_Error := Try.func70
abbrev n_internal_runtime_maps_unhashableTypeError_RuntimeError : Nat := 71
noncomputable abbrev f_internal_runtime_maps_unhashableTypeError_RuntimeError : Func := Try.f71
theorem h_internal_runtime_maps_unhashableTypeError_RuntimeError : prog.funcs[n_internal_runtime_maps_unhashableTypeError_RuntimeError]? = some f_internal_runtime_maps_unhashableTypeError_RuntimeError := Try.func71
abbrev n_internal_abi_Kind_String : Nat := 72
noncomputable abbrev f_internal_abi_Kind_String : Func := Try.f72
theorem h_internal_abi_Kind_String : prog.funcs[n_internal_abi_Kind_String]? = some f_internal_abi_Kind_String := Try.func72
end Go.Proofs.Ytllmejkmogepjaa.Ix
