/- The head of the seat: its types, its functions by name. Written by header.py. -/
import Derived.Test.YtllmejkmogepjaaDoorX16
import Derived.Test.YtllmejkmogepjaaDoorX28
import Derived.Test.YtllmejkmogepjaaDoorProg
namespace Go.Proofs.YtllmejkmogepjaaDoor.Ix
open Go.Proofs
def T (t : Nat) : Ty := match Nat.blt t 208 with
 | false => Ty.none
 | true => (match Nat.ble 105 t with
 | true => (match Nat.ble 155 t with
 | true => (match Nat.ble 180 t with
 | true => (match Nat.ble 193 t with
 | true => (match Nat.ble 202 t with
 | true => (match Nat.ble 205 t with
 | true => (match Nat.ble 206 t with
 | true => (match Nat.ble 207 t with
 | true => (match Nat.beq t 207 with | true => ⟨11, 48, true, [.int .u64 0, .int .u64 0, .int .u32 0, .int .u8 0, .int .u8 0, .int .u8 0, .int .u8 0, .lit .nilFunc, .lit (.pointer none), .int .i32 0, .int .i32 0], [], .struct [(0, 1, false), (1, 1, false), (2, 1, false), (3, 1, false), (4, 1, false), (5, 1, false), (6, 1, false), (7, 1, false), (8, 1, false), (9, 1, false), (10, 1, false)]⟩ | false => Ty.none)
 | false => (match Nat.beq t 206 with | true => ⟨11, 48, true, [.int .u64 0, .int .u64 0, .int .u32 0, .int .u8 0, .int .u8 0, .int .u8 0, .int .u8 0, .lit .nilFunc, .lit (.pointer none), .int .i32 0, .int .i32 0], [], .struct [(0, 1, false), (1, 1, false), (2, 1, false), (3, 1, false), (4, 1, false), (5, 1, false), (6, 1, false), (7, 1, false), (8, 1, false), (9, 1, false), (10, 1, false)]⟩ | false => Ty.none))
 | false => (match Nat.beq t 205 with | true => ⟨1, 4, false, [.int .i32 0], [], .other⟩ | false => Ty.none))
 | false => (match Nat.ble 203 t with
 | true => (match Nat.ble 204 t with
 | true => (match Nat.beq t 204 with | true => ⟨1, 4, false, [.int .i32 0], [], .other⟩ | false => Ty.none)
 | false => (match Nat.beq t 203 with | true => ⟨1, 8, false, [.lit .nilFunc], [], .other⟩ | false => Ty.none))
 | false => (match Nat.beq t 202 with | true => ⟨1, 1, false, [.int .u8 0], [], .other⟩ | false => Ty.none)))
 | false => (match Nat.ble 196 t with
 | true => (match Nat.ble 197 t with
 | true => (match Nat.ble 201 t with
 | true => (match Nat.beq t 201 with | true => ⟨1, 1, false, [.int .u8 0], [], .other⟩ | false => Ty.none)
 | false => (match Nat.beq t 197 with | true => ⟨4, 40, true, [.lit (.pointer none), .lit (.pointer none), .lit (.pointer none), .str ByteArray.empty], [], .struct [(0, 1, false), (1, 1, false), (2, 1, false), (3, 1, false)]⟩ | false => Ty.none))
 | false => (match Nat.beq t 196 with | true => ⟨4, 40, true, [.lit (.pointer none), .lit (.pointer none), .lit (.pointer none), .str ByteArray.empty], [], .struct [(0, 1, false), (1, 1, false), (2, 1, false), (3, 1, false)]⟩ | false => Ty.none))
 | false => (match Nat.ble 194 t with
 | true => (match Nat.ble 195 t with
 | true => (match Nat.beq t 195 with | true => ⟨64, 64, true, [.int .u8 0, .int .u8 0, .int .u8 0, .int .u8 0, .int .u8 0, .int .u8 0, .int .u8 0, .int .u8 0, .int .u8 0, .int .u8 0, .int .u8 0, .int .u8 0, .int .u8 0, .int .u8 0, .int .u8 0, .int .u8 0, .int .u8 0, .int .u8 0, .int .u8 0, .int .u8 0, .int .u8 0, .int .u8 0, .int .u8 0, .int .u8 0, .int .u8 0, .int .u8 0, .int .u8 0, .int .u8 0, .int .u8 0, .int .u8 0, .int .u8 0, .int .u8 0, .int .u8 0, .int .u8 0, .int .u8 0, .int .u8 0, .int .u8 0, .int .u8 0, .int .u8 0, .int .u8 0, .int .u8 0, .int .u8 0, .int .u8 0, .int .u8 0, .int .u8 0, .int .u8 0, .int .u8 0, .int .u8 0, .int .u8 0, .int .u8 0, .int .u8 0, .int .u8 0, .int .u8 0, .int .u8 0, .int .u8 0, .int .u8 0, .int .u8 0, .int .u8 0, .int .u8 0, .int .u8 0, .int .u8 0, .int .u8 0, .int .u8 0, .int .u8 0], [.int, .int, .int, .int, .int, .int, .int, .int, .int, .int, .int, .int, .int, .int, .int, .int, .int, .int, .int, .int, .int, .int, .int, .int, .int, .int, .int, .int, .int, .int, .int, .int, .int, .int, .int, .int, .int, .int, .int, .int, .int, .int, .int, .int, .int, .int, .int, .int, .int, .int, .int, .int, .int, .int, .int, .int, .int, .int, .int, .int, .int, .int, .int, .int], .array 64 5⟩ | false => Ty.none)
 | false => (match Nat.beq t 194 with | true => ⟨32, 32, true, [.int .u8 0, .int .u8 0, .int .u8 0, .int .u8 0, .int .u8 0, .int .u8 0, .int .u8 0, .int .u8 0, .int .u8 0, .int .u8 0, .int .u8 0, .int .u8 0, .int .u8 0, .int .u8 0, .int .u8 0, .int .u8 0, .int .u8 0, .int .u8 0, .int .u8 0, .int .u8 0, .int .u8 0, .int .u8 0, .int .u8 0, .int .u8 0, .int .u8 0, .int .u8 0, .int .u8 0, .int .u8 0, .int .u8 0, .int .u8 0, .int .u8 0, .int .u8 0], [.int, .int, .int, .int, .int, .int, .int, .int, .int, .int, .int, .int, .int, .int, .int, .int, .int, .int, .int, .int, .int, .int, .int, .int, .int, .int, .int, .int, .int, .int, .int, .int], .array 32 5⟩ | false => Ty.none))
 | false => (match Nat.beq t 193 with | true => ⟨1, 8, false, [.lit .nilFunc], [], .other⟩ | false => Ty.none))))
 | false => (match Nat.ble 187 t with
 | true => (match Nat.ble 190 t with
 | true => (match Nat.ble 191 t with
 | true => (match Nat.ble 192 t with
 | true => (match Nat.beq t 192 with | true => ⟨1, 8, false, [.lit .nilFunc], [], .other⟩ | false => Ty.none)
 | false => (match Nat.beq t 191 with | true => ⟨1, 8, false, [.int .u64 0], [], .other⟩ | false => Ty.none))
 | false => (match Nat.beq t 190 with | true => ⟨1, 8, false, [.lit .nilFunc], [], .other⟩ | false => Ty.none))
 | false => (match Nat.ble 188 t with
 | true => (match Nat.ble 189 t with
 | true => (match Nat.beq t 189 with | true => ⟨65, 65, true, [.int .u8 0, .int .u8 0, .int .u8 0, .int .u8 0, .int .u8 0, .int .u8 0, .int .u8 0, .int .u8 0, .int .u8 0, .int .u8 0, .int .u8 0, .int .u8 0, .int .u8 0, .int .u8 0, .int .u8 0, .int .u8 0, .int .u8 0, .int .u8 0, .int .u8 0, .int .u8 0, .int .u8 0, .int .u8 0, .int .u8 0, .int .u8 0, .int .u8 0, .int .u8 0, .int .u8 0, .int .u8 0, .int .u8 0, .int .u8 0, .int .u8 0, .int .u8 0, .int .u8 0, .int .u8 0, .int .u8 0, .int .u8 0, .int .u8 0, .int .u8 0, .int .u8 0, .int .u8 0, .int .u8 0, .int .u8 0, .int .u8 0, .int .u8 0, .int .u8 0, .int .u8 0, .int .u8 0, .int .u8 0, .int .u8 0, .int .u8 0, .int .u8 0, .int .u8 0, .int .u8 0, .int .u8 0, .int .u8 0, .int .u8 0, .int .u8 0, .int .u8 0, .int .u8 0, .int .u8 0, .int .u8 0, .int .u8 0, .int .u8 0, .int .u8 0, .int .u8 0], [.int, .int, .int, .int, .int, .int, .int, .int, .int, .int, .int, .int, .int, .int, .int, .int, .int, .int, .int, .int, .int, .int, .int, .int, .int, .int, .int, .int, .int, .int, .int, .int, .int, .int, .int, .int, .int, .int, .int, .int, .int, .int, .int, .int, .int, .int, .int, .int, .int, .int, .int, .int, .int, .int, .int, .int, .int, .int, .int, .int, .int, .int, .int, .int, .int], .array 65 5⟩ | false => Ty.none)
 | false => (match Nat.beq t 188 with | true => ⟨1, 4, false, [.int .u32 0], [], .other⟩ | false => Ty.none))
 | false => (match Nat.beq t 187 with | true => ⟨20, 160, true, [.int .u64 0, .int .u64 0, .int .u64 0, .int .u64 0, .int .u64 0, .int .u64 0, .int .u64 0, .int .u64 0, .int .u64 0, .int .u64 0, .int .u64 0, .int .u64 0, .int .u64 0, .int .u64 0, .int .u64 0, .int .u64 0, .int .u64 0, .int .u64 0, .int .u64 0, .int .u64 0], [.int, .int, .int, .int, .int, .int, .int, .int, .int, .int, .int, .int, .int, .int, .int, .int, .int, .int, .int, .int], .array 20 181⟩ | false => Ty.none)))
 | false => (match Nat.ble 183 t with
 | true => (match Nat.ble 185 t with
 | true => (match Nat.ble 186 t with
 | true => (match Nat.beq t 186 with | true => ⟨1, 8, false, [.lit .nilFunc], [], .other⟩ | false => Ty.none)
 | false => (match Nat.beq t 185 with | true => ⟨1, 8, false, [.lit .nilFunc], [], .other⟩ | false => Ty.none))
 | false => (match Nat.beq t 183 with | true => ⟨1, 8, false, [.lit .nilFunc], [], .other⟩ | false => Ty.none))
 | false => (match Nat.ble 181 t with
 | true => (match Nat.ble 182 t with
 | true => (match Nat.beq t 182 with | true => ⟨1, 8, false, [.lit .nilFunc], [], .other⟩ | false => Ty.none)
 | false => (match Nat.beq t 181 with | true => ⟨1, 8, false, [.int .u64 0], [], .other⟩ | false => Ty.none))
 | false => (match Nat.beq t 180 with | true => ⟨24, 24, true, [.int .u8 0, .int .u8 0, .int .u8 0, .int .u8 0, .int .u8 0, .int .u8 0, .int .u8 0, .int .u8 0, .int .u8 0, .int .u8 0, .int .u8 0, .int .u8 0, .int .u8 0, .int .u8 0, .int .u8 0, .int .u8 0, .int .u8 0, .int .u8 0, .int .u8 0, .int .u8 0, .int .u8 0, .int .u8 0, .int .u8 0, .int .u8 0], [.int, .int, .int, .int, .int, .int, .int, .int, .int, .int, .int, .int, .int, .int, .int, .int, .int, .int, .int, .int, .int, .int, .int, .int], .array 24 5⟩ | false => Ty.none)))))
 | false => (match Nat.ble 167 t with
 | true => (match Nat.ble 174 t with
 | true => (match Nat.ble 177 t with
 | true => (match Nat.ble 178 t with
 | true => (match Nat.ble 179 t with
 | true => (match Nat.beq t 179 with | true => ⟨1, 8, false, [.lit .nilFunc], [], .other⟩ | false => Ty.none)
 | false => (match Nat.beq t 178 with | true => ⟨1, 8, false, [.lit .nilFunc], [], .other⟩ | false => Ty.none))
 | false => (match Nat.beq t 177 with | true => ⟨1, 8, false, [.lit (.pointer none)], [], .other⟩ | false => Ty.none))
 | false => (match Nat.ble 175 t with
 | true => (match Nat.ble 176 t with
 | true => (match Nat.beq t 176 with | true => ⟨1, 8, false, [.lit .nilFunc], [], .other⟩ | false => Ty.none)
 | false => (match Nat.beq t 175 with | true => ⟨1, 8, false, [.lit (.pointer none)], [], .other⟩ | false => Ty.none))
 | false => (match Nat.beq t 174 with | true => ⟨1, 8, false, [.lit .nilFunc], [], .other⟩ | false => Ty.none)))
 | false => (match Nat.ble 170 t with
 | true => (match Nat.ble 172 t with
 | true => (match Nat.ble 173 t with
 | true => (match Nat.beq t 173 with | true => ⟨1, 8, false, [.lit .nilFunc], [], .other⟩ | false => Ty.none)
 | false => (match Nat.beq t 172 with | true => ⟨1, 8, false, [.lit .nilFunc], [], .other⟩ | false => Ty.none))
 | false => (match Nat.beq t 170 with | true => ⟨1, 16, false, [.lit .nilIface], [], .other⟩ | false => Ty.none))
 | false => (match Nat.ble 168 t with
 | true => (match Nat.ble 169 t with
 | true => (match Nat.beq t 169 with | true => ⟨1, 16, false, [.lit .nilIface], [], .other⟩ | false => Ty.none)
 | false => (match Nat.beq t 168 with | true => ⟨1, 8, false, [.lit .nilFunc], [], .other⟩ | false => Ty.none))
 | false => (match Nat.beq t 167 with | true => ⟨2, 32, true, [.lit (.pointer none), .nilS], [], .struct [(0, 1, false), (1, 1, false)]⟩ | false => Ty.none))))
 | false => (match Nat.ble 161 t with
 | true => (match Nat.ble 164 t with
 | true => (match Nat.ble 165 t with
 | true => (match Nat.ble 166 t with
 | true => (match Nat.beq t 166 with | true => ⟨2, 32, true, [.lit (.pointer none), .nilS], [], .struct [(0, 1, false), (1, 1, false)]⟩ | false => Ty.none)
 | false => (match Nat.beq t 165 with | true => ⟨1, 8, false, [.lit (.pointer none)], [], .other⟩ | false => Ty.none))
 | false => (match Nat.beq t 164 with | true => ⟨1, 8, false, [.lit .nilFunc], [], .other⟩ | false => Ty.none))
 | false => (match Nat.ble 162 t with
 | true => (match Nat.ble 163 t with
 | true => (match Nat.beq t 163 with | true => ⟨1, 8, false, [.lit .nilFunc], [], .other⟩ | false => Ty.none)
 | false => (match Nat.beq t 162 with | true => ⟨1, 8, false, [.lit .nilFunc], [], .other⟩ | false => Ty.none))
 | false => (match Nat.beq t 161 with | true => ⟨1, 8, false, [.lit .nilFunc], [], .other⟩ | false => Ty.none)))
 | false => (match Nat.ble 158 t with
 | true => (match Nat.ble 159 t with
 | true => (match Nat.ble 160 t with
 | true => (match Nat.beq t 160 with | true => ⟨6, 48, true, [.int .i64 0, .int .i64 0, .int .i64 0, .int .i64 0, .int .i64 0, .int .i64 0], [.int, .int, .int, .int, .int, .int], .array 3 55⟩ | false => Ty.none)
 | false => (match Nat.beq t 159 with | true => ⟨1, 8, false, [.lit .nilFunc], [], .other⟩ | false => Ty.none))
 | false => (match Nat.beq t 158 with | true => ⟨1, 24, false, [.nilS], [], .slice 5⟩ | false => Ty.none))
 | false => (match Nat.ble 156 t with
 | true => (match Nat.ble 157 t with
 | true => (match Nat.beq t 157 with | true => ⟨1, 8, false, [.lit .nilFunc], [], .other⟩ | false => Ty.none)
 | false => (match Nat.beq t 156 with | true => ⟨1, 24, false, [.nilS], [], .slice 9⟩ | false => Ty.none))
 | false => (match Nat.beq t 155 with | true => ⟨1, 8, false, [.lit .nilFunc], [], .other⟩ | false => Ty.none))))))
 | false => (match Nat.ble 129 t with
 | true => (match Nat.ble 141 t with
 | true => (match Nat.ble 148 t with
 | true => (match Nat.ble 152 t with
 | true => (match Nat.ble 153 t with
 | true => (match Nat.ble 154 t with
 | true => (match Nat.beq t 154 with | true => ⟨1, 8, false, [.lit .nilFunc], [], .other⟩ | false => Ty.none)
 | false => (match Nat.beq t 153 with | true => ⟨1, 8, false, [.lit .nilFunc], [], .other⟩ | false => Ty.none))
 | false => (match Nat.beq t 152 with | true => ⟨1, 8, false, [.lit .nilFunc], [], .other⟩ | false => Ty.none))
 | false => (match Nat.ble 149 t with
 | true => (match Nat.ble 150 t with
 | true => (match Nat.beq t 150 with | true => ⟨1, 8, false, [.lit .nilFunc], [], .other⟩ | false => Ty.none)
 | false => (match Nat.beq t 149 with | true => ⟨1, 8, false, [.lit .nilFunc], [], .other⟩ | false => Ty.none))
 | false => (match Nat.beq t 148 with | true => ⟨1, 8, false, [.lit .nilFunc], [], .other⟩ | false => Ty.none)))
 | false => (match Nat.ble 144 t with
 | true => (match Nat.ble 145 t with
 | true => (match Nat.ble 146 t with
 | true => (match Nat.beq t 146 with | true => ⟨1, 8, false, [.lit .nilFunc], [], .other⟩ | false => Ty.none)
 | false => (match Nat.beq t 145 with | true => ⟨1, 8, false, [.lit .nilFunc], [], .other⟩ | false => Ty.none))
 | false => (match Nat.beq t 144 with | true => ⟨9, 104, true, [.nilS, .nilS, .int .i64 0, .int .i64 0, .int .i64 0, .int .i64 0, .int .i64 0, .int .i64 0, .int .i64 0], [], .struct [(0, 2, true), (2, 4, true), (6, 3, true)]⟩ | false => Ty.none))
 | false => (match Nat.ble 142 t with
 | true => (match Nat.ble 143 t with
 | true => (match Nat.beq t 143 with | true => ⟨9, 104, true, [.nilS, .nilS, .int .i64 0, .int .i64 0, .int .i64 0, .int .i64 0, .int .i64 0, .int .i64 0, .int .i64 0], [], .struct [(0, 2, true), (2, 4, true), (6, 3, true)]⟩ | false => Ty.none)
 | false => (match Nat.beq t 142 with | true => ⟨1, 8, false, [.lit .nilFunc], [], .other⟩ | false => Ty.none))
 | false => (match Nat.beq t 141 with | true => ⟨1, 8, false, [.lit .nilFunc], [], .other⟩ | false => Ty.none))))
 | false => (match Nat.ble 135 t with
 | true => (match Nat.ble 138 t with
 | true => (match Nat.ble 139 t with
 | true => (match Nat.ble 140 t with
 | true => (match Nat.beq t 140 with | true => ⟨1, 8, false, [.lit .nilFunc], [], .other⟩ | false => Ty.none)
 | false => (match Nat.beq t 139 with | true => ⟨1, 8, false, [.lit .nilFunc], [], .other⟩ | false => Ty.none))
 | false => (match Nat.beq t 138 with | true => ⟨1, 8, false, [.lit .nilFunc], [], .other⟩ | false => Ty.none))
 | false => (match Nat.ble 136 t with
 | true => (match Nat.ble 137 t with
 | true => (match Nat.beq t 137 with | true => ⟨1, 8, false, [.lit .nilFunc], [], .other⟩ | false => Ty.none)
 | false => (match Nat.beq t 136 with | true => ⟨1, 8, false, [.lit .nilFunc], [], .other⟩ | false => Ty.none))
 | false => (match Nat.beq t 135 with | true => ⟨1, 8, false, [.lit .nilFunc], [], .other⟩ | false => Ty.none)))
 | false => (match Nat.ble 132 t with
 | true => (match Nat.ble 133 t with
 | true => (match Nat.ble 134 t with
 | true => (match Nat.beq t 134 with | true => ⟨1, 8, false, [.lit .nilFunc], [], .other⟩ | false => Ty.none)
 | false => (match Nat.beq t 133 with | true => ⟨1, 8, false, [.lit .nilFunc], [], .other⟩ | false => Ty.none))
 | false => (match Nat.beq t 132 with | true => ⟨1, 8, false, [.lit .nilFunc], [], .other⟩ | false => Ty.none))
 | false => (match Nat.ble 130 t with
 | true => (match Nat.ble 131 t with
 | true => (match Nat.beq t 131 with | true => ⟨1, 8, false, [.lit .nilFunc], [], .other⟩ | false => Ty.none)
 | false => (match Nat.beq t 130 with | true => ⟨1, 8, false, [.lit .nilFunc], [], .other⟩ | false => Ty.none))
 | false => (match Nat.beq t 129 with | true => ⟨1, 24, false, [.nilS], [], .slice 32⟩ | false => Ty.none)))))
 | false => (match Nat.ble 117 t with
 | true => (match Nat.ble 123 t with
 | true => (match Nat.ble 126 t with
 | true => (match Nat.ble 127 t with
 | true => (match Nat.ble 128 t with
 | true => (match Nat.beq t 128 with | true => ⟨1, 8, false, [.lit .nilFunc], [], .other⟩ | false => Ty.none)
 | false => (match Nat.beq t 127 with | true => ⟨1, 8, false, [.lit .nilFunc], [], .other⟩ | false => Ty.none))
 | false => (match Nat.beq t 126 with | true => ⟨1, 8, false, [.lit .nilFunc], [], .other⟩ | false => Ty.none))
 | false => (match Nat.ble 124 t with
 | true => (match Nat.ble 125 t with
 | true => (match Nat.beq t 125 with | true => ⟨1, 8, false, [.lit .nilFunc], [], .other⟩ | false => Ty.none)
 | false => (match Nat.beq t 124 with | true => ⟨4, 32, true, [.int .i64 0, .int .i64 0, .int .i64 0, .int .i64 0], [.int, .int, .int, .int], .struct [(0, 1, false), (1, 1, false), (2, 1, false), (3, 1, false)]⟩ | false => Ty.none))
 | false => (match Nat.beq t 123 with | true => ⟨1, 8, false, [.lit .nilFunc], [], .other⟩ | false => Ty.none)))
 | false => (match Nat.ble 120 t with
 | true => (match Nat.ble 121 t with
 | true => (match Nat.ble 122 t with
 | true => (match Nat.beq t 122 with | true => ⟨1, 8, false, [.lit .nilFunc], [], .other⟩ | false => Ty.none)
 | false => (match Nat.beq t 121 with | true => ⟨1, 8, false, [.lit .nilFunc], [], .other⟩ | false => Ty.none))
 | false => (match Nat.beq t 120 with | true => ⟨1, 8, false, [.lit .nilFunc], [], .other⟩ | false => Ty.none))
 | false => (match Nat.ble 118 t with
 | true => (match Nat.ble 119 t with
 | true => (match Nat.beq t 119 with | true => ⟨1, 8, false, [.lit .nilFunc], [], .other⟩ | false => Ty.none)
 | false => (match Nat.beq t 118 with | true => ⟨3, 3, true, [.int .u8 0, .int .u8 0, .int .u8 0], [.int, .int, .int], .array 3 5⟩ | false => Ty.none))
 | false => (match Nat.beq t 117 with | true => ⟨1, 8, false, [.lit .nilFunc], [], .other⟩ | false => Ty.none))))
 | false => (match Nat.ble 110 t with
 | true => (match Nat.ble 113 t with
 | true => (match Nat.ble 115 t with
 | true => (match Nat.ble 116 t with
 | true => (match Nat.beq t 116 with | true => ⟨1, 8, false, [.lit .nilFunc], [], .other⟩ | false => Ty.none)
 | false => (match Nat.beq t 115 with | true => ⟨1, 8, false, [.lit .nilFunc], [], .other⟩ | false => Ty.none))
 | false => (match Nat.beq t 113 with | true => ⟨1, 8, false, [.lit .nilFunc], [], .other⟩ | false => Ty.none))
 | false => (match Nat.ble 111 t with
 | true => (match Nat.ble 112 t with
 | true => (match Nat.beq t 112 with | true => ⟨1, 8, false, [.lit .nilFunc], [], .other⟩ | false => Ty.none)
 | false => (match Nat.beq t 111 with | true => ⟨1, 8, false, [.lit .nilFunc], [], .other⟩ | false => Ty.none))
 | false => (match Nat.beq t 110 with | true => ⟨1, 8, false, [.lit .nilFunc], [], .other⟩ | false => Ty.none)))
 | false => (match Nat.ble 107 t with
 | true => (match Nat.ble 108 t with
 | true => (match Nat.ble 109 t with
 | true => (match Nat.beq t 109 with | true => ⟨1, 8, false, [.lit .nilFunc], [], .other⟩ | false => Ty.none)
 | false => (match Nat.beq t 108 with | true => ⟨1, 8, false, [.lit .nilFunc], [], .other⟩ | false => Ty.none))
 | false => (match Nat.beq t 107 with | true => ⟨1, 8, false, [.lit .nilFunc], [], .other⟩ | false => Ty.none))
 | false => (match Nat.ble 106 t with
 | true => (match Nat.beq t 106 with | true => ⟨1, 8, false, [.lit .nilFunc], [], .other⟩ | false => Ty.none)
 | false => (match Nat.beq t 105 with | true => ⟨1, 8, false, [.lit .nilFunc], [], .other⟩ | false => Ty.none)))))))
 | false => (match Nat.ble 49 t with
 | true => (match Nat.ble 79 t with
 | true => (match Nat.ble 93 t with
 | true => (match Nat.ble 99 t with
 | true => (match Nat.ble 102 t with
 | true => (match Nat.ble 103 t with
 | true => (match Nat.ble 104 t with
 | true => (match Nat.beq t 104 with | true => ⟨1, 8, false, [.lit .nilFunc], [], .other⟩ | false => Ty.none)
 | false => (match Nat.beq t 103 with | true => ⟨1, 8, false, [.lit .nilFunc], [], .other⟩ | false => Ty.none))
 | false => (match Nat.beq t 102 with | true => ⟨1, 8, false, [.lit .nilFunc], [], .other⟩ | false => Ty.none))
 | false => (match Nat.ble 100 t with
 | true => (match Nat.ble 101 t with
 | true => (match Nat.beq t 101 with | true => ⟨1, 8, false, [.lit .nilFunc], [], .other⟩ | false => Ty.none)
 | false => (match Nat.beq t 100 with | true => ⟨1, 8, false, [.lit .nilFunc], [], .other⟩ | false => Ty.none))
 | false => (match Nat.beq t 99 with | true => ⟨1, 8, false, [.lit .nilFunc], [], .other⟩ | false => Ty.none)))
 | false => (match Nat.ble 96 t with
 | true => (match Nat.ble 97 t with
 | true => (match Nat.ble 98 t with
 | true => (match Nat.beq t 98 with | true => ⟨1, 8, false, [.lit .nilFunc], [], .other⟩ | false => Ty.none)
 | false => (match Nat.beq t 97 with | true => ⟨2, 16, true, [.int .i64 0, .int .i64 0], [.int, .int], .struct [(0, 1, false), (1, 1, false)]⟩ | false => Ty.none))
 | false => (match Nat.beq t 96 with | true => ⟨1, 8, false, [.lit .nilFunc], [], .other⟩ | false => Ty.none))
 | false => (match Nat.ble 94 t with
 | true => (match Nat.ble 95 t with
 | true => (match Nat.beq t 95 with | true => ⟨5, 40, true, [.int .i64 0, .int .i64 0, .int .i64 0, .int .i64 0, .int .i64 0], [.int, .int, .int, .int, .int], .struct [(0, 1, false), (1, 2, true), (3, 1, false), (4, 1, false)]⟩ | false => Ty.none)
 | false => (match Nat.beq t 94 with | true => ⟨5, 40, true, [.int .i64 0, .int .i64 0, .int .i64 0, .int .i64 0, .int .i64 0], [.int, .int, .int, .int, .int], .struct [(0, 1, false), (1, 2, true), (3, 1, false), (4, 1, false)]⟩ | false => Ty.none))
 | false => (match Nat.beq t 93 with | true => ⟨2, 16, true, [.int .i64 0, .int .i64 0], [.int, .int], .struct [(0, 1, false), (1, 1, false)]⟩ | false => Ty.none))))
 | false => (match Nat.ble 85 t with
 | true => (match Nat.ble 90 t with
 | true => (match Nat.ble 91 t with
 | true => (match Nat.ble 92 t with
 | true => (match Nat.beq t 92 with | true => ⟨2, 16, true, [.int .i64 0, .int .i64 0], [.int, .int], .struct [(0, 1, false), (1, 1, false)]⟩ | false => Ty.none)
 | false => (match Nat.beq t 91 with | true => ⟨1, 8, false, [.lit .nilFunc], [], .other⟩ | false => Ty.none))
 | false => (match Nat.beq t 90 with | true => ⟨1, 8, false, [.lit .nilFunc], [], .other⟩ | false => Ty.none))
 | false => (match Nat.ble 86 t with
 | true => (match Nat.ble 88 t with
 | true => (match Nat.beq t 88 with | true => ⟨1, 8, false, [.lit .nilFunc], [], .other⟩ | false => Ty.none)
 | false => (match Nat.beq t 86 with | true => ⟨1, 8, false, [.lit .nilFunc], [], .other⟩ | false => Ty.none))
 | false => (match Nat.beq t 85 with | true => ⟨4, 32, true, [.int .i64 0, .int .i64 0, .int .i64 0, .int .i64 0], [.int, .int, .int, .int], .struct [(0, 1, false), (1, 1, false), (2, 1, false), (3, 1, false)]⟩ | false => Ty.none)))
 | false => (match Nat.ble 82 t with
 | true => (match Nat.ble 83 t with
 | true => (match Nat.ble 84 t with
 | true => (match Nat.beq t 84 with | true => ⟨4, 32, true, [.int .i64 0, .int .i64 0, .int .i64 0, .int .i64 0], [.int, .int, .int, .int], .struct [(0, 1, false), (1, 1, false), (2, 1, false), (3, 1, false)]⟩ | false => Ty.none)
 | false => (match Nat.beq t 83 with | true => ⟨1, 8, false, [.lit .nilFunc], [], .other⟩ | false => Ty.none))
 | false => (match Nat.beq t 82 with | true => ⟨4, 32, true, [.int .i64 0, .int .i64 0, .int .i64 0, .int .i64 0], [.int, .int, .int, .int], .struct [(0, 1, false), (1, 1, false), (2, 1, false), (3, 1, false)]⟩ | false => Ty.none))
 | false => (match Nat.ble 80 t with
 | true => (match Nat.ble 81 t with
 | true => (match Nat.beq t 81 with | true => ⟨4, 32, true, [.int .i64 0, .int .i64 0, .int .i64 0, .int .i64 0], [.int, .int, .int, .int], .struct [(0, 1, false), (1, 1, false), (2, 1, false), (3, 1, false)]⟩ | false => Ty.none)
 | false => (match Nat.beq t 80 with | true => ⟨1, 8, false, [.lit .nilFunc], [], .other⟩ | false => Ty.none))
 | false => (match Nat.beq t 79 with | true => ⟨1, 8, false, [.lit .nilFunc], [], .other⟩ | false => Ty.none)))))
 | false => (match Nat.ble 64 t with
 | true => (match Nat.ble 71 t with
 | true => (match Nat.ble 74 t with
 | true => (match Nat.ble 76 t with
 | true => (match Nat.ble 77 t with
 | true => (match Nat.beq t 77 with | true => ⟨1, 24, false, [.nilS], [], .slice 74⟩ | false => Ty.none)
 | false => (match Nat.beq t 76 with | true => ⟨1, 8, false, [.lit .nilFunc], [], .other⟩ | false => Ty.none))
 | false => (match Nat.beq t 74 with | true => ⟨2, 16, true, [.int .i64 0, .int .i64 0], [.int, .int], .array 2 3⟩ | false => Ty.none))
 | false => (match Nat.ble 72 t with
 | true => (match Nat.ble 73 t with
 | true => (match Nat.beq t 73 with | true => ⟨1, 8, false, [.lit .nilFunc], [], .other⟩ | false => Ty.none)
 | false => (match Nat.beq t 72 with | true => ⟨1, 8, false, [.lit .nilFunc], [], .other⟩ | false => Ty.none))
 | false => (match Nat.beq t 71 with | true => ⟨1, 8, false, [.lit .nilFunc], [], .other⟩ | false => Ty.none)))
 | false => (match Nat.ble 67 t with
 | true => (match Nat.ble 69 t with
 | true => (match Nat.ble 70 t with
 | true => (match Nat.beq t 70 with | true => ⟨1, 8, false, [.lit .nilFunc], [], .other⟩ | false => Ty.none)
 | false => (match Nat.beq t 69 with | true => ⟨1, 8, false, [.lit .nilFunc], [], .other⟩ | false => Ty.none))
 | false => (match Nat.beq t 67 with | true => ⟨1, 8, false, [.lit .nilFunc], [], .other⟩ | false => Ty.none))
 | false => (match Nat.ble 65 t with
 | true => (match Nat.ble 66 t with
 | true => (match Nat.beq t 66 with | true => ⟨1, 8, false, [.lit .nilFunc], [], .other⟩ | false => Ty.none)
 | false => (match Nat.beq t 65 with | true => ⟨1, 8, false, [.lit .nilFunc], [], .other⟩ | false => Ty.none))
 | false => (match Nat.beq t 64 with | true => ⟨1, 8, false, [.lit .nilFunc], [], .other⟩ | false => Ty.none))))
 | false => (match Nat.ble 55 t with
 | true => (match Nat.ble 61 t with
 | true => (match Nat.ble 62 t with
 | true => (match Nat.ble 63 t with
 | true => (match Nat.beq t 63 with | true => ⟨1, 8, false, [.lit .nilFunc], [], .other⟩ | false => Ty.none)
 | false => (match Nat.beq t 62 with | true => ⟨1, 8, false, [.lit .nilFunc], [], .other⟩ | false => Ty.none))
 | false => (match Nat.beq t 61 with | true => ⟨1, 8, false, [.lit .nilFunc], [], .other⟩ | false => Ty.none))
 | false => (match Nat.ble 57 t with
 | true => (match Nat.ble 59 t with
 | true => (match Nat.beq t 59 with | true => ⟨1, 8, false, [.lit .nilFunc], [], .other⟩ | false => Ty.none)
 | false => (match Nat.beq t 57 with | true => ⟨1, 8, false, [.lit .nilFunc], [], .other⟩ | false => Ty.none))
 | false => (match Nat.beq t 55 with | true => ⟨2, 16, true, [.int .i64 0, .int .i64 0], [.int, .int], .struct [(0, 1, false), (1, 1, false)]⟩ | false => Ty.none)))
 | false => (match Nat.ble 52 t with
 | true => (match Nat.ble 53 t with
 | true => (match Nat.ble 54 t with
 | true => (match Nat.beq t 54 with | true => ⟨1, 24, false, [.nilS], [], .slice 49⟩ | false => Ty.none)
 | false => (match Nat.beq t 53 with | true => ⟨6, 48, true, [.int .i64 0, .int .i64 0, .int .i64 0, .int .i64 0, .int .i64 0, .int .i64 0], [.int, .int, .int, .int, .int, .int], .struct [(0, 3, true), (3, 1, false), (4, 2, true)]⟩ | false => Ty.none))
 | false => (match Nat.beq t 52 with | true => ⟨6, 48, true, [.int .i64 0, .int .i64 0, .int .i64 0, .int .i64 0, .int .i64 0, .int .i64 0], [.int, .int, .int, .int, .int, .int], .struct [(0, 3, true), (3, 1, false), (4, 2, true)]⟩ | false => Ty.none))
 | false => (match Nat.ble 50 t with
 | true => (match Nat.ble 51 t with
 | true => (match Nat.beq t 51 with | true => ⟨2, 16, true, [.int .i64 0, .int .i64 0], [.int, .int], .struct [(0, 1, false), (1, 1, false)]⟩ | false => Ty.none)
 | false => (match Nat.beq t 50 with | true => ⟨2, 16, true, [.int .i64 0, .int .i64 0], [.int, .int], .struct [(0, 1, false), (1, 1, false)]⟩ | false => Ty.none))
 | false => (match Nat.beq t 49 with | true => ⟨3, 24, true, [.int .i64 0, .int .i64 0, .int .i64 0], [.int, .int, .int], .array 3 3⟩ | false => Ty.none))))))
 | false => (match Nat.ble 24 t with
 | true => (match Nat.ble 37 t with
 | true => (match Nat.ble 43 t with
 | true => (match Nat.ble 46 t with
 | true => (match Nat.ble 47 t with
 | true => (match Nat.ble 48 t with
 | true => (match Nat.beq t 48 with | true => ⟨1, 8, false, [.lit .nilFunc], [], .other⟩ | false => Ty.none)
 | false => (match Nat.beq t 47 with | true => ⟨1, 8, false, [.lit .nilFunc], [], .other⟩ | false => Ty.none))
 | false => (match Nat.beq t 46 with | true => ⟨3, 24, true, [.int .i64 0, .int .i64 0, .int .i64 0], [.int, .int, .int], .struct [(0, 1, false), (1, 1, false), (2, 1, false)]⟩ | false => Ty.none))
 | false => (match Nat.ble 44 t with
 | true => (match Nat.ble 45 t with
 | true => (match Nat.beq t 45 with | true => ⟨1, 8, false, [.lit .nilFunc], [], .other⟩ | false => Ty.none)
 | false => (match Nat.beq t 44 with | true => ⟨1, 8, false, [.lit .nilFunc], [], .other⟩ | false => Ty.none))
 | false => (match Nat.beq t 43 with | true => ⟨1, 8, false, [.lit .nilFunc], [], .other⟩ | false => Ty.none)))
 | false => (match Nat.ble 40 t with
 | true => (match Nat.ble 41 t with
 | true => (match Nat.ble 42 t with
 | true => (match Nat.beq t 42 with | true => ⟨1, 8, false, [.lit .nilFunc], [], .other⟩ | false => Ty.none)
 | false => (match Nat.beq t 41 with | true => ⟨1, 8, false, [.lit .nilFunc], [], .other⟩ | false => Ty.none))
 | false => (match Nat.beq t 40 with | true => ⟨1, 8, false, [.lit .nilFunc], [], .other⟩ | false => Ty.none))
 | false => (match Nat.ble 38 t with
 | true => (match Nat.ble 39 t with
 | true => (match Nat.beq t 39 with | true => ⟨1, 8, false, [.lit .nilFunc], [], .other⟩ | false => Ty.none)
 | false => (match Nat.beq t 38 with | true => ⟨3, 72, true, [.nilS, .nilS, .nilS], [], .struct [(0, 2, true), (2, 1, false)]⟩ | false => Ty.none))
 | false => (match Nat.beq t 37 with | true => ⟨3, 72, true, [.nilS, .nilS, .nilS], [], .struct [(0, 2, true), (2, 1, false)]⟩ | false => Ty.none))))
 | false => (match Nat.ble 30 t with
 | true => (match Nat.ble 34 t with
 | true => (match Nat.ble 35 t with
 | true => (match Nat.ble 36 t with
 | true => (match Nat.beq t 36 with | true => ⟨1, 24, false, [.nilS], [], .slice 124⟩ | false => Ty.none)
 | false => (match Nat.beq t 35 with | true => ⟨2, 48, true, [.nilS, .nilS], [], .struct [(0, 1, false), (1, 1, false)]⟩ | false => Ty.none))
 | false => (match Nat.beq t 34 with | true => ⟨1, 8, false, [.lit .nilFunc], [], .other⟩ | false => Ty.none))
 | false => (match Nat.ble 31 t with
 | true => (match Nat.ble 32 t with
 | true => (match Nat.beq t 32 with | true => ⟨1, 8, false, [.int .i64 0], [], .other⟩ | false => Ty.none)
 | false => (match Nat.beq t 31 with | true => ⟨1, 8, false, [.lit .nilFunc], [], .other⟩ | false => Ty.none))
 | false => (match Nat.beq t 30 with | true => ⟨1, 8, false, [.lit .nilFunc], [], .other⟩ | false => Ty.none)))
 | false => (match Nat.ble 27 t with
 | true => (match Nat.ble 28 t with
 | true => (match Nat.ble 29 t with
 | true => (match Nat.beq t 29 with | true => ⟨3, 24, true, [.int .i64 0, .int .i64 0, .int .i64 0], [.int, .int, .int], .struct [(0, 1, false), (1, 1, false), (2, 1, false)]⟩ | false => Ty.none)
 | false => (match Nat.beq t 28 with | true => ⟨3, 24, true, [.int .i64 0, .int .i64 0, .int .i64 0], [.int, .int, .int], .struct [(0, 1, false), (1, 1, false), (2, 1, false)]⟩ | false => Ty.none))
 | false => (match Nat.beq t 27 with | true => ⟨3, 72, true, [.nilS, .nilS, .nilS], [], .struct [(0, 2, true), (2, 1, false)]⟩ | false => Ty.none))
 | false => (match Nat.ble 25 t with
 | true => (match Nat.ble 26 t with
 | true => (match Nat.beq t 26 with | true => ⟨3, 72, true, [.nilS, .nilS, .nilS], [], .struct [(0, 2, true), (2, 1, false)]⟩ | false => Ty.none)
 | false => (match Nat.beq t 25 with | true => ⟨1, 24, false, [.nilS], [], .slice 82⟩ | false => Ty.none))
 | false => (match Nat.beq t 24 with | true => ⟨2, 48, true, [.nilS, .nilS], [], .struct [(0, 1, false), (1, 1, false)]⟩ | false => Ty.none)))))
 | false => (match Nat.ble 12 t with
 | true => (match Nat.ble 18 t with
 | true => (match Nat.ble 21 t with
 | true => (match Nat.ble 22 t with
 | true => (match Nat.ble 23 t with
 | true => (match Nat.beq t 23 with | true => ⟨2, 48, true, [.nilS, .nilS], [], .struct [(0, 1, false), (1, 1, false)]⟩ | false => Ty.none)
 | false => (match Nat.beq t 22 with | true => ⟨1, 24, false, [.nilS], [], .slice 3⟩ | false => Ty.none))
 | false => (match Nat.beq t 21 with | true => ⟨1, 4, false, [.int .i32 0], [], .other⟩ | false => Ty.none))
 | false => (match Nat.ble 19 t with
 | true => (match Nat.ble 20 t with
 | true => (match Nat.beq t 20 with | true => ⟨1, 16, false, [.lit .nilIface], [], .other⟩ | false => Ty.none)
 | false => (match Nat.beq t 19 with | true => ⟨1, 8, true, [.lit (.pointer none)], [], .struct [(0, 1, false)]⟩ | false => Ty.none))
 | false => (match Nat.beq t 18 with | true => ⟨1, 8, true, [.lit (.pointer none)], [], .struct [(0, 1, false)]⟩ | false => Ty.none)))
 | false => (match Nat.ble 15 t with
 | true => (match Nat.ble 16 t with
 | true => (match Nat.ble 17 t with
 | true => (match Nat.beq t 17 with | true => ⟨1, 8, false, [.lit (.pointer none)], [], .other⟩ | false => Ty.none)
 | false => (match Nat.beq t 16 with | true => ⟨1, 8, false, [.lit (.pointer none)], [], .other⟩ | false => Ty.none))
 | false => (match Nat.beq t 15 with | true => ⟨1, 8, false, [.lit (.pointer none)], [], .other⟩ | false => Ty.none))
 | false => (match Nat.ble 13 t with
 | true => (match Nat.ble 14 t with
 | true => (match Nat.beq t 14 with | true => ⟨2, 24, true, [.str ByteArray.empty, .int .u64 0], [], .struct [(0, 1, false), (1, 1, false)]⟩ | false => Ty.none)
 | false => (match Nat.beq t 13 with | true => ⟨2, 24, true, [.str ByteArray.empty, .int .u64 0], [], .struct [(0, 1, false), (1, 1, false)]⟩ | false => Ty.none))
 | false => (match Nat.beq t 12 with | true => ⟨1, 8, false, [.int .u64 0], [], .other⟩ | false => Ty.none))))
 | false => (match Nat.ble 6 t with
 | true => (match Nat.ble 9 t with
 | true => (match Nat.ble 10 t with
 | true => (match Nat.ble 11 t with
 | true => (match Nat.beq t 11 with | true => ⟨1, 16, false, [.str ByteArray.empty], [], .str⟩ | false => Ty.none)
 | false => (match Nat.beq t 10 with | true => ⟨1, 16, false, [.str ByteArray.empty], [], .str⟩ | false => Ty.none))
 | false => (match Nat.beq t 9 with | true => ⟨1, 16, false, [.str ByteArray.empty], [], .str⟩ | false => Ty.none))
 | false => (match Nat.ble 7 t with
 | true => (match Nat.ble 8 t with
 | true => (match Nat.beq t 8 with | true => ⟨4, 24, true, [.int .i64 0, .int .i64 0, .bool false, .int .u8 0], [], .struct [(0, 1, false), (1, 1, false), (2, 1, false), (3, 1, false)]⟩ | false => Ty.none)
 | false => (match Nat.beq t 7 with | true => ⟨4, 24, true, [.int .i64 0, .int .i64 0, .bool false, .int .u8 0], [], .struct [(0, 1, false), (1, 1, false), (2, 1, false), (3, 1, false)]⟩ | false => Ty.none))
 | false => (match Nat.beq t 6 with | true => ⟨1, 1, false, [.int .u8 0], [], .other⟩ | false => Ty.none)))
 | false => (match Nat.ble 3 t with
 | true => (match Nat.ble 4 t with
 | true => (match Nat.ble 5 t with
 | true => (match Nat.beq t 5 with | true => ⟨1, 1, false, [.int .u8 0], [], .other⟩ | false => Ty.none)
 | false => (match Nat.beq t 4 with | true => ⟨1, 1, false, [.bool false], [], .other⟩ | false => Ty.none))
 | false => (match Nat.beq t 3 with | true => ⟨1, 8, false, [.int .i64 0], [], .other⟩ | false => Ty.none))
 | false => (match Nat.ble 2 t with
 | true => (match Nat.beq t 2 with | true => ⟨1, 8, false, [.int .i64 0], [], .other⟩ | false => Ty.none)
 | false => (match Nat.beq t 1 with | true => ⟨1, 8, false, [.lit .nilFunc], [], .other⟩ | false => Ty.none))))))))

noncomputable abbrev prog : Program := Tryd.prog
set_option maxRecDepth 100000 in
theorem tok0 : TOK prog T := tok_of 208 (by kernel_rfl) (fun t h => by unfold T; rw [show Nat.blt t 208 = false from h])
theorem mixed0 : prog.follows .mixedOrders = true := by kernel_rfl
abbrev n_main_main : Nat := 0
noncomputable abbrev f_main_main : Func := Tryd.f0
theorem h_main_main : prog.funcs[n_main_main]? = some f_main_main := Tryd.func0
abbrev n_gosem_cut : Nat := 1
noncomputable abbrev f_gosem_cut : Func := Tryd.f1
theorem h_gosem_cut : prog.funcs[n_gosem_cut]? = some f_gosem_cut := Tryd.func1
abbrev n_gosem_cut_init : Nat := 2
noncomputable abbrev f_gosem_cut_init : Func := Tryd.f2
theorem h_gosem_cut_init : prog.funcs[n_gosem_cut_init]? = some f_gosem_cut_init := Tryd.func2
abbrev n_nacellelaw03_RotorBlades : Nat := 3
noncomputable abbrev f_nacellelaw03_RotorBlades : Func := Tryd.f3
theorem h_nacellelaw03_RotorBlades : prog.funcs[n_nacellelaw03_RotorBlades]? = some f_nacellelaw03_RotorBlades := Tryd.func3
abbrev n_nacellelaw03_RotorLoads : Nat := 4
noncomputable abbrev f_nacellelaw03_RotorLoads : Func := Tryd.f4
theorem h_nacellelaw03_RotorLoads : prog.funcs[n_nacellelaw03_RotorLoads]? = some f_nacellelaw03_RotorLoads := Tryd.func4
abbrev n_nacellelaw03_RotorNested : Nat := 5
noncomputable abbrev f_nacellelaw03_RotorNested : Func := Tryd.f5
theorem h_nacellelaw03_RotorNested : prog.funcs[n_nacellelaw03_RotorNested]? = some f_nacellelaw03_RotorNested := Tryd.func5
abbrev n_nacellelaw03_RotorChosen : Nat := 6
noncomputable abbrev f_nacellelaw03_RotorChosen : Func := Tryd.f6
theorem h_nacellelaw03_RotorChosen : prog.funcs[n_nacellelaw03_RotorChosen]? = some f_nacellelaw03_RotorChosen := Tryd.func6
abbrev n_nacellelaw03_RotorInflows : Nat := 7
noncomputable abbrev f_nacellelaw03_RotorInflows : Func := Tryd.f7
theorem h_nacellelaw03_RotorInflows : prog.funcs[n_nacellelaw03_RotorInflows]? = some f_nacellelaw03_RotorInflows := Tryd.func7
abbrev n_nacellelaw03_RotorPairs : Nat := 8
noncomputable abbrev f_nacellelaw03_RotorPairs : Func := Tryd.f8
theorem h_nacellelaw03_RotorPairs : prog.funcs[n_nacellelaw03_RotorPairs]? = some f_nacellelaw03_RotorPairs := Tryd.func8
abbrev n_nacellelaw03_RotorThirds : Nat := 9
noncomputable abbrev f_nacellelaw03_RotorThirds : Func := Tryd.f9
theorem h_nacellelaw03_RotorThirds : prog.funcs[n_nacellelaw03_RotorThirds]? = some f_nacellelaw03_RotorThirds := Tryd.func9
abbrev n_nacellelaw03_RotorMonotone : Nat := 10
noncomputable abbrev f_nacellelaw03_RotorMonotone : Func := Tryd.f10
theorem h_nacellelaw03_RotorMonotone : prog.funcs[n_nacellelaw03_RotorMonotone]? = some f_nacellelaw03_RotorMonotone := Tryd.func10
abbrev n_nacelletop_TopHawseUneven : Nat := 11
noncomputable abbrev f_nacelletop_TopHawseUneven : Func := Tryd.f11
theorem h_nacelletop_TopHawseUneven : prog.funcs[n_nacelletop_TopHawseUneven]? = some f_nacelletop_TopHawseUneven := Tryd.func11
abbrev n_nacellelaw03_awake : Nat := 12
noncomputable abbrev f_nacellelaw03_awake : Func := Tryd.f12
theorem h_nacellelaw03_awake : prog.funcs[n_nacellelaw03_awake]? = some f_nacellelaw03_awake := Tryd.func12
abbrev n_nacelleref03_Short : Nat := 13
noncomputable abbrev f_nacelleref03_Short : Func := Tryd.f13
theorem h_nacelleref03_Short : prog.funcs[n_nacelleref03_Short]? = some f_nacelleref03_Short := Tryd.func13
abbrev n_rotor_Print : Nat := 14
noncomputable abbrev f_rotor_Print : Func := Tryd.f14
theorem h_rotor_Print : prog.funcs[n_rotor_Print]? = some f_rotor_Print := Tryd.func14
abbrev n_nacellelaw03_blade : Nat := 15
noncomputable abbrev f_nacellelaw03_blade : Func := Tryd.f15
theorem h_nacellelaw03_blade : prog.funcs[n_nacellelaw03_blade]? = some f_nacellelaw03_blade := Tryd.func15
abbrev n_nacelleref03_CheckBlade : Nat := 16
noncomputable abbrev f_nacelleref03_CheckBlade : Func := Tryd.f16
theorem h_nacelleref03_CheckBlade : prog.funcs[n_nacelleref03_CheckBlade]? = some f_nacelleref03_CheckBlade := Tryd.func16
abbrev n_nacelleref03_Print : Nat := 17
noncomputable abbrev f_nacelleref03_Print : Func := Tryd.f17
theorem h_nacelleref03_Print : prog.funcs[n_nacelleref03_Print]? = some f_nacelleref03_Print := Tryd.func17
abbrev n_rotor_CheckPolar : Nat := 18
noncomputable abbrev f_rotor_CheckPolar : Func := Tryd.f18
theorem h_rotor_CheckPolar : prog.funcs[n_rotor_CheckPolar]? = some f_rotor_CheckPolar := Tryd.func18
abbrev n_nacelleref03_CheckPolar : Nat := 19
noncomputable abbrev f_nacelleref03_CheckPolar : Func := Tryd.f19
theorem h_nacelleref03_CheckPolar : prog.funcs[n_nacelleref03_CheckPolar]? = some f_nacelleref03_CheckPolar := Tryd.func19
abbrev n_rotor_CheckBlade : Nat := 20
noncomputable abbrev f_rotor_CheckBlade : Func := Tryd.f20
theorem h_rotor_CheckBlade : prog.funcs[n_rotor_CheckBlade]? = some f_rotor_CheckBlade := Tryd.func20
abbrev n_rotor_CheckFlow : Nat := 21
noncomputable abbrev f_rotor_CheckFlow : Func := Tryd.f21
theorem h_rotor_CheckFlow : prog.funcs[n_rotor_CheckFlow]? = some f_rotor_CheckFlow := Tryd.func21
abbrev n_nacelleref03_CheckFlow : Nat := 22
noncomputable abbrev f_nacelleref03_CheckFlow : Func := Tryd.f22
theorem h_nacelleref03_CheckFlow : prog.funcs[n_nacelleref03_CheckFlow]? = some f_nacelleref03_CheckFlow := Tryd.func22
abbrev n_rotor_Split : Nat := 23
noncomputable abbrev f_rotor_Split : Func := Tryd.f23
theorem h_rotor_Split : prog.funcs[n_rotor_Split]? = some f_rotor_Split := Tryd.func23
abbrev n_rotor_Merge : Nat := 24
noncomputable abbrev f_rotor_Merge : Func := Tryd.f24
theorem h_rotor_Merge : prog.funcs[n_rotor_Merge]? = some f_rotor_Merge := Tryd.func24
abbrev n_rotor_Rotating : Nat := 25
noncomputable abbrev f_rotor_Rotating : Func := Tryd.f25
theorem h_rotor_Rotating : prog.funcs[n_rotor_Rotating]? = some f_rotor_Rotating := Tryd.func25
abbrev n_rotor_Fixed : Nat := 26
noncomputable abbrev f_rotor_Fixed : Func := Tryd.f26
theorem h_rotor_Fixed : prog.funcs[n_rotor_Fixed]? = some f_rotor_Fixed := Tryd.func26
abbrev n_nacelleref03_CheckLoads : Nat := 27
noncomputable abbrev f_nacelleref03_CheckLoads : Func := Tryd.f27
theorem h_nacelleref03_CheckLoads : prog.funcs[n_nacelleref03_CheckLoads]? = some f_nacelleref03_CheckLoads := Tryd.func27
abbrev n_nacelleref01_First : Nat := 28
noncomputable abbrev f_nacelleref01_First : Func := Tryd.f28
theorem h_nacelleref01_First : prog.funcs[n_nacelleref01_First]? = some f_nacelleref01_First := Tryd.func28
abbrev n_nacelleref01_CheckRange : Nat := 29
noncomputable abbrev f_nacelleref01_CheckRange : Func := Tryd.f29
theorem h_nacelleref01_CheckRange : prog.funcs[n_nacelleref01_CheckRange]? = some f_nacelleref01_CheckRange := Tryd.func29
abbrev n_nacelleref03_CheckPair : Nat := 30
noncomputable abbrev f_nacelleref03_CheckPair : Func := Tryd.f30
theorem h_nacelleref03_CheckPair : prog.funcs[n_nacelleref03_CheckPair]? = some f_nacelleref03_CheckPair := Tryd.func30
abbrev n_nacelleref03_CheckRecord : Nat := 31
noncomputable abbrev f_nacelleref03_CheckRecord : Func := Tryd.f31
theorem h_nacelleref03_CheckRecord : prog.funcs[n_nacelleref03_CheckRecord]? = some f_nacelleref03_CheckRecord := Tryd.func31
abbrev n_nacelleref03_Component : Nat := 32
noncomputable abbrev f_nacelleref03_Component : Func := Tryd.f32
theorem h_nacelleref03_Component : prog.funcs[n_nacelleref03_Component]? = some f_nacelleref03_Component := Tryd.func32
abbrev n_nacelleref03_Merge : Nat := 33
noncomputable abbrev f_nacelleref03_Merge : Func := Tryd.f33
theorem h_nacelleref03_Merge : prog.funcs[n_nacelleref03_Merge]? = some f_nacelleref03_Merge := Tryd.func33
abbrev n_nacelleref03_Rotating : Nat := 34
noncomputable abbrev f_nacelleref03_Rotating : Func := Tryd.f34
theorem h_nacelleref03_Rotating : prog.funcs[n_nacelleref03_Rotating]? = some f_nacelleref03_Rotating := Tryd.func34
abbrev n_nacelleref03_Fixed : Nat := 35
noncomputable abbrev f_nacelleref03_Fixed : Func := Tryd.f35
theorem h_nacelleref03_Fixed : prog.funcs[n_nacelleref03_Fixed]? = some f_nacelleref03_Fixed := Tryd.func35
abbrev n_nacellelaw03_number : Nat := 36
noncomputable abbrev f_nacellelaw03_number : Func := Tryd.f36
theorem h_nacellelaw03_number : prog.funcs[n_nacellelaw03_number]? = some f_nacellelaw03_number := Tryd.func36
abbrev n_nacellelaw03_pair : Nat := 37
noncomputable abbrev f_nacellelaw03_pair : Func := Tryd.f37
theorem h_nacellelaw03_pair : prog.funcs[n_nacellelaw03_pair]? = some f_nacellelaw03_pair := Tryd.func37
abbrev n_nacellelaw03_light : Nat := 38
noncomputable abbrev f_nacellelaw03_light : Func := Tryd.f38
theorem h_nacellelaw03_light : prog.funcs[n_nacellelaw03_light]? = some f_nacellelaw03_light := Tryd.func38
abbrev n_rotor_Thrust : Nat := 39
noncomputable abbrev f_rotor_Thrust : Func := Tryd.f39
theorem h_rotor_Thrust : prog.funcs[n_rotor_Thrust]? = some f_rotor_Thrust := Tryd.func39
abbrev n_rotor_Torque : Nat := 40
noncomputable abbrev f_rotor_Torque : Func := Tryd.f40
theorem h_rotor_Torque : prog.funcs[n_rotor_Torque]? = some f_rotor_Torque := Tryd.func40
abbrev n_rotor_Rings : Nat := 41
noncomputable abbrev f_rotor_Rings : Func := Tryd.f41
theorem h_rotor_Rings : prog.funcs[n_rotor_Rings]? = some f_rotor_Rings := Tryd.func41
abbrev n_nacellelaw03_told : Nat := 42
noncomputable abbrev f_nacellelaw03_told : Func := Tryd.f42
theorem h_nacellelaw03_told : prog.funcs[n_nacellelaw03_told]? = some f_nacellelaw03_told := Tryd.func42
abbrev n_nacelleref03_CheckPitches : Nat := 43
noncomputable abbrev f_nacelleref03_CheckPitches : Func := Tryd.f43
theorem h_nacelleref03_CheckPitches : prog.funcs[n_nacelleref03_CheckPitches]? = some f_nacelleref03_CheckPitches := Tryd.func43
abbrev n_rotor_Best : Nat := 44
noncomputable abbrev f_rotor_Best : Func := Tryd.f44
theorem h_rotor_Best : prog.funcs[n_rotor_Best]? = some f_rotor_Best := Tryd.func44
abbrev n_rotor_Limit : Nat := 45
noncomputable abbrev f_rotor_Limit : Func := Tryd.f45
theorem h_rotor_Limit : prog.funcs[n_rotor_Limit]? = some f_rotor_Limit := Tryd.func45
abbrev n_rotor_Inflow : Nat := 46
noncomputable abbrev f_rotor_Inflow : Func := Tryd.f46
theorem h_rotor_Inflow : prog.funcs[n_rotor_Inflow]? = some f_rotor_Inflow := Tryd.func46
abbrev n_rotor_Class : Nat := 47
noncomputable abbrev f_rotor_Class : Func := Tryd.f47
theorem h_rotor_Class : prog.funcs[n_rotor_Class]? = some f_rotor_Class := Tryd.func47
abbrev n_rotor_Balance : Nat := 48
noncomputable abbrev f_rotor_Balance : Func := Tryd.f48
theorem h_rotor_Balance : prog.funcs[n_rotor_Balance]? = some f_rotor_Balance := Tryd.func48
abbrev n_nacelleref03_CheckRing : Nat := 49
noncomputable abbrev f_nacelleref03_CheckRing : Func := Tryd.f49
theorem h_nacelleref03_CheckRing : prog.funcs[n_nacelleref03_CheckRing]? = some f_nacelleref03_CheckRing := Tryd.func49
abbrev n_nacelleref03_CheckInduction : Nat := 50
noncomputable abbrev f_nacelleref03_CheckInduction : Func := Tryd.f50
theorem h_nacelleref03_CheckInduction : prog.funcs[n_nacelleref03_CheckInduction]? = some f_nacelleref03_CheckInduction := Tryd.func50
abbrev n_nacelleref03_Inflow : Nat := 51
noncomputable abbrev f_nacelleref03_Inflow : Func := Tryd.f51
theorem h_nacelleref03_Inflow : prog.funcs[n_nacelleref03_Inflow]? = some f_nacelleref03_Inflow := Tryd.func51
abbrev n_nacelleref03_Balance : Nat := 52
noncomputable abbrev f_nacelleref03_Balance : Func := Tryd.f52
theorem h_nacelleref03_Balance : prog.funcs[n_nacelleref03_Balance]? = some f_nacelleref03_Balance := Tryd.func52
abbrev n_nacelleref03_Class : Nat := 53
noncomputable abbrev f_nacelleref03_Class : Func := Tryd.f53
theorem h_nacelleref03_Class : prog.funcs[n_nacelleref03_Class]? = some f_nacelleref03_Class := Tryd.func53
abbrev n_rotor_Times : Nat := 54
noncomputable abbrev f_rotor_Times : Func := Tryd.f54
theorem h_rotor_Times : prog.funcs[n_rotor_Times]? = some f_rotor_Times := Tryd.func54
abbrev n_rotor_Conjugate : Nat := 55
noncomputable abbrev f_rotor_Conjugate : Func := Tryd.f55
theorem h_rotor_Conjugate : prog.funcs[n_rotor_Conjugate]? = some f_rotor_Conjugate := Tryd.func55
abbrev n_rotor_Norm : Nat := 56
noncomputable abbrev f_rotor_Norm : Func := Tryd.f56
theorem h_rotor_Norm : prog.funcs[n_rotor_Norm]? = some f_rotor_Norm := Tryd.func56
abbrev n_rotor_Turn : Nat := 57
noncomputable abbrev f_rotor_Turn : Func := Tryd.f57
theorem h_rotor_Turn : prog.funcs[n_rotor_Turn]? = some f_rotor_Turn := Tryd.func57
abbrev n_nacelleref03_Times : Nat := 58
noncomputable abbrev f_nacelleref03_Times : Func := Tryd.f58
theorem h_nacelleref03_Times : prog.funcs[n_nacelleref03_Times]? = some f_nacelleref03_Times := Tryd.func58
abbrev n_nacelleref03_Conjugate : Nat := 59
noncomputable abbrev f_nacelleref03_Conjugate : Func := Tryd.f59
theorem h_nacelleref03_Conjugate : prog.funcs[n_nacelleref03_Conjugate]? = some f_nacelleref03_Conjugate := Tryd.func59
abbrev n_nacelleref03_Norm : Nat := 60
noncomputable abbrev f_nacelleref03_Norm : Func := Tryd.f60
theorem h_nacelleref03_Norm : prog.funcs[n_nacelleref03_Norm]? = some f_nacelleref03_Norm := Tryd.func60
abbrev n_nacelleref03_Turn : Nat := 61
noncomputable abbrev f_nacelleref03_Turn : Func := Tryd.f61
theorem h_nacelleref03_Turn : prog.funcs[n_nacelleref03_Turn]? = some f_nacelleref03_Turn := Tryd.func61
abbrev n_rotor_Find : Nat := 62
noncomputable abbrev f_rotor_Find : Func := Tryd.f62
theorem h_rotor_Find : prog.funcs[n_rotor_Find]? = some f_rotor_Find := Tryd.func62
abbrev n_rotor_CheckBracket : Nat := 63
noncomputable abbrev f_rotor_CheckBracket : Func := Tryd.f63
theorem h_rotor_CheckBracket : prog.funcs[n_rotor_CheckBracket]? = some f_rotor_CheckBracket := Tryd.func63
abbrev n_rotor_Refine : Nat := 64
noncomputable abbrev f_rotor_Refine : Func := Tryd.f64
theorem h_rotor_Refine : prog.funcs[n_rotor_Refine]? = some f_rotor_Refine := Tryd.func64
abbrev n_nacelletop_hawseRotor : Nat := 65
noncomputable abbrev f_nacelletop_hawseRotor : Func := Tryd.f65
theorem h_nacelletop_hawseRotor : prog.funcs[n_nacelletop_hawseRotor]? = some f_nacelletop_hawseRotor := Tryd.func65
abbrev n_nacelletop_hawseLight : Nat := 66
noncomputable abbrev f_nacelletop_hawseLight : Func := Tryd.f66
theorem h_nacelletop_hawseLight : prog.funcs[n_nacelletop_hawseLight]? = some f_nacelletop_hawseLight := Tryd.func66
abbrev n_nacelletop_hawseBlade : Nat := 67
noncomputable abbrev f_nacelletop_hawseBlade : Func := Tryd.f67
theorem h_nacelletop_hawseBlade : prog.funcs[n_nacelletop_hawseBlade]? = some f_nacelletop_hawseBlade := Tryd.func67
abbrev n_nacelletop_hawseFlow : Nat := 68
noncomputable abbrev f_nacelletop_hawseFlow : Func := Tryd.f68
theorem h_nacelletop_hawseFlow : prog.funcs[n_nacelletop_hawseFlow]? = some f_nacelletop_hawseFlow := Tryd.func68
abbrev n_nacellelaw03_sample : Nat := 69
noncomputable abbrev f_nacellelaw03_sample : Func := Tryd.f69
theorem h_nacellelaw03_sample : prog.funcs[n_nacellelaw03_sample]? = some f_nacellelaw03_sample := Tryd.func69
abbrev n_nacellelaw03_breeze : Nat := 70
noncomputable abbrev f_nacellelaw03_breeze : Func := Tryd.f70
theorem h_nacellelaw03_breeze : prog.funcs[n_nacellelaw03_breeze]? = some f_nacellelaw03_breeze := Tryd.func70
abbrev n_rotor_line : Nat := 71
noncomputable abbrev f_rotor_line : Func := Tryd.f71
theorem h_rotor_line : prog.funcs[n_rotor_line]? = some f_rotor_line := Tryd.func71
abbrev n_nacelleref01_Text : Nat := 72
noncomputable abbrev f_nacelleref01_Text : Func := Tryd.f72
theorem h_nacelleref01_Text : prog.funcs[n_nacelleref01_Text]? = some f_nacelleref01_Text := Tryd.func72
abbrev n_rotor_first : Nat := 73
noncomputable abbrev f_rotor_first : Func := Tryd.f73
theorem h_rotor_first : prog.funcs[n_rotor_first]? = some f_rotor_first := Tryd.func73
abbrev n_rotor_when : Nat := 74
noncomputable abbrev f_rotor_when : Func := Tryd.f74
theorem h_rotor_when : prog.funcs[n_rotor_when]? = some f_rotor_when := Tryd.func74
abbrev n_rotor_within : Nat := 75
noncomputable abbrev f_rotor_within : Func := Tryd.f75
theorem h_rotor_within : prog.funcs[n_rotor_within]? = some f_rotor_within := Tryd.func75
abbrev n_rotor_mapped_int_api_Errno : Nat := 76
noncomputable abbrev f_rotor_mapped_int_api_Errno : Func := Tryd.f76
theorem h_rotor_mapped_int_api_Errno : prog.funcs[n_rotor_mapped_int_api_Errno]? = some f_rotor_mapped_int_api_Errno := Tryd.func76
abbrev n_rotor_CheckPolar_1 : Nat := 77
noncomputable abbrev f_rotor_CheckPolar_1 : Func := Tryd.f77
theorem h_rotor_CheckPolar_1 : prog.funcs[n_rotor_CheckPolar_1]? = some f_rotor_CheckPolar_1 := Tryd.func77
abbrev n_rotor_Ring_check : Nat := 78
noncomputable abbrev f_rotor_Ring_check : Func := Tryd.f78
theorem h_rotor_Ring_check : prog.funcs[n_rotor_Ring_check]? = some f_rotor_Ring_check := Tryd.func78
abbrev n_nacelleref03_CheckAngle : Nat := 79
noncomputable abbrev f_nacelleref03_CheckAngle : Func := Tryd.f79
theorem h_nacelleref03_CheckAngle : prog.funcs[n_nacelleref03_CheckAngle]? = some f_nacelleref03_CheckAngle := Tryd.func79
abbrev n_rotor_checkLoads : Nat := 80
noncomputable abbrev f_rotor_checkLoads : Func := Tryd.f80
theorem h_rotor_checkLoads : prog.funcs[n_rotor_checkLoads]? = some f_rotor_checkLoads := Tryd.func80
abbrev n_rotor_component : Nat := 81
noncomputable abbrev f_rotor_component : Func := Tryd.f81
theorem h_rotor_component : prog.funcs[n_rotor_component]? = some f_rotor_component := Tryd.func81
abbrev n_rotor_Pair_check : Nat := 82
noncomputable abbrev f_rotor_Pair_check : Func := Tryd.f82
theorem h_rotor_Pair_check : prog.funcs[n_rotor_Pair_check]? = some f_rotor_Pair_check := Tryd.func82
abbrev n_rotor_record : Nat := 83
noncomputable abbrev f_rotor_record : Func := Tryd.f83
theorem h_rotor_record : prog.funcs[n_rotor_record]? = some f_rotor_record := Tryd.func83
abbrev n_rotor_Rotating_1 : Nat := 84
noncomputable abbrev f_rotor_Rotating_1 : Func := Tryd.f84
theorem h_rotor_Rotating_1 : prog.funcs[n_rotor_Rotating_1]? = some f_rotor_Rotating_1 := Tryd.func84
abbrev n_rotor_Pair_turned : Nat := 85
noncomputable abbrev f_rotor_Pair_turned : Func := Tryd.f85
theorem h_rotor_Pair_turned : prog.funcs[n_rotor_Pair_turned]? = some f_rotor_Pair_turned := Tryd.func85
abbrev n_nacelleref03_Plus : Nat := 86
noncomputable abbrev f_nacelleref03_Plus : Func := Tryd.f86
theorem h_nacelleref03_Plus : prog.funcs[n_nacelleref03_Plus]? = some f_nacelleref03_Plus := Tryd.func86
abbrev n_nacelleref03_Light : Nat := 87
noncomputable abbrev f_nacelleref03_Light : Func := Tryd.f87
theorem h_nacelleref03_Light : prog.funcs[n_nacelleref03_Light]? = some f_nacelleref03_Light := Tryd.func87
abbrev n_rotor_checkAll : Nat := 88
noncomputable abbrev f_rotor_checkAll : Func := Tryd.f88
theorem h_rotor_checkAll : prog.funcs[n_rotor_checkAll]? = some f_rotor_checkAll := Tryd.func88
abbrev n_rotor_each : Nat := 89
noncomputable abbrev f_rotor_each : Func := Tryd.f89
theorem h_rotor_each : prog.funcs[n_rotor_each]? = some f_rotor_each := Tryd.func89
abbrev n_rotor_section_thrust : Nat := 90
noncomputable abbrev f_rotor_section_thrust : Func := Tryd.f90
theorem h_rotor_section_thrust : prog.funcs[n_rotor_section_thrust]? = some f_rotor_section_thrust := Tryd.func90
abbrev n_rotor_sum : Nat := 91
noncomputable abbrev f_rotor_sum : Func := Tryd.f91
theorem h_rotor_sum : prog.funcs[n_rotor_sum]? = some f_rotor_sum := Tryd.func91
abbrev n_rotor_section_torque : Nat := 92
noncomputable abbrev f_rotor_section_torque : Func := Tryd.f92
theorem h_rotor_section_torque : prog.funcs[n_rotor_section_torque]? = some f_rotor_section_torque := Tryd.func92
abbrev n_rotor_checkPitches : Nat := 93
noncomputable abbrev f_rotor_checkPitches : Func := Tryd.f93
theorem h_rotor_checkPitches : prog.funcs[n_rotor_checkPitches]? = some f_rotor_checkPitches := Tryd.func93
abbrev n_rotor_pitched : Nat := 94
noncomputable abbrev f_rotor_pitched : Func := Tryd.f94
theorem h_rotor_pitched : prog.funcs[n_rotor_pitched]? = some f_rotor_pitched := Tryd.func94
abbrev n_rotor_checkRing : Nat := 95
noncomputable abbrev f_rotor_checkRing : Func := Tryd.f95
theorem h_rotor_checkRing : prog.funcs[n_rotor_checkRing]? = some f_rotor_checkRing := Tryd.func95
abbrev n_rotor_Induction_check : Nat := 96
noncomputable abbrev f_rotor_Induction_check : Func := Tryd.f96
theorem h_rotor_Induction_check : prog.funcs[n_rotor_Induction_check]? = some f_rotor_Induction_check := Tryd.func96
abbrev n_rotor_section_inflow : Nat := 97
noncomputable abbrev f_rotor_section_inflow : Func := Tryd.f97
theorem h_rotor_section_inflow : prog.funcs[n_rotor_section_inflow]? = some f_rotor_section_inflow := Tryd.func97
abbrev n_rotor_section_class : Nat := 98
noncomputable abbrev f_rotor_section_class : Func := Tryd.f98
theorem h_rotor_section_class : prog.funcs[n_rotor_section_class]? = some f_rotor_section_class := Tryd.func98
abbrev n_rotor_section_balance : Nat := 99
noncomputable abbrev f_rotor_section_balance : Func := Tryd.f99
theorem h_rotor_section_balance : prog.funcs[n_rotor_section_balance]? = some f_rotor_section_balance := Tryd.func99
abbrev n_nacelleref03_CheckDepth : Nat := 100
noncomputable abbrev f_nacelleref03_CheckDepth : Func := Tryd.f100
theorem h_nacelleref03_CheckDepth : prog.funcs[n_nacelleref03_CheckDepth]? = some f_nacelleref03_CheckDepth := Tryd.func100
abbrev n_nacelleref03_power : Nat := 101
noncomputable abbrev f_nacelleref03_power : Func := Tryd.f101
theorem h_nacelleref03_power : prog.funcs[n_nacelleref03_power]? = some f_nacelleref03_power := Tryd.func101
abbrev n_rotor_Pair_times : Nat := 102
noncomputable abbrev f_rotor_Pair_times : Func := Tryd.f102
theorem h_rotor_Pair_times : prog.funcs[n_rotor_Pair_times]? = some f_rotor_Pair_times := Tryd.func102
abbrev n_rotor_checkDepth : Nat := 103
noncomputable abbrev f_rotor_checkDepth : Func := Tryd.f103
theorem h_rotor_checkDepth : prog.funcs[n_rotor_checkDepth]? = some f_rotor_checkDepth := Tryd.func103
abbrev n_rotor_section_find : Nat := 104
noncomputable abbrev f_rotor_section_find : Func := Tryd.f104
theorem h_rotor_section_find : prog.funcs[n_rotor_section_find]? = some f_rotor_section_find := Tryd.func104
abbrev n_rotor_section_brackets : Nat := 105
noncomputable abbrev f_rotor_section_brackets : Func := Tryd.f105
theorem h_rotor_section_brackets : prog.funcs[n_rotor_section_brackets]? = some f_rotor_section_brackets := Tryd.func105
abbrev n_rotor_Induction_next : Nat := 106
noncomputable abbrev f_rotor_Induction_next : Func := Tryd.f106
theorem h_rotor_Induction_next : prog.funcs[n_rotor_Induction_next]? = some f_rotor_Induction_next := Tryd.func106
abbrev n_strings_Join : Nat := 107
noncomputable abbrev f_strings_Join : Func := Tryd.f107
theorem h_strings_Join : prog.funcs[n_strings_Join]? = some f_strings_Join := Tryd.func107
abbrev n_rotor_mapped_int_string : Nat := 108
noncomputable abbrev f_rotor_mapped_int_string : Func := Tryd.f108
theorem h_rotor_mapped_int_string : prog.funcs[n_rotor_mapped_int_string]? = some f_rotor_mapped_int_string := Tryd.func108
abbrev n_strconv_Itoa : Nat := 109
noncomputable abbrev f_strconv_Itoa : Func := Tryd.f109
theorem h_strconv_Itoa : prog.funcs[n_strconv_Itoa]? = some f_strconv_Itoa := Tryd.func109
abbrev n_rotor_checkLoads_1 : Nat := 110
noncomputable abbrev f_rotor_checkLoads_1 : Func := Tryd.f110
theorem h_rotor_checkLoads_1 : prog.funcs[n_rotor_checkLoads_1]? = some f_rotor_checkLoads_1 := Tryd.func110
abbrev n_rotor_mapped_3_int_api_Errno : Nat := 111
noncomputable abbrev f_rotor_mapped_3_int_api_Errno : Func := Tryd.f111
theorem h_rotor_mapped_3_int_api_Errno : prog.funcs[n_rotor_mapped_3_int_api_Errno]? = some f_rotor_mapped_3_int_api_Errno := Tryd.func111
abbrev n_rotor_sections : Nat := 112
noncomputable abbrev f_rotor_sections : Func := Tryd.f112
theorem h_rotor_sections : prog.funcs[n_rotor_sections]? = some f_rotor_sections := Tryd.func112
abbrev n_rotor_section_thrust_1 : Nat := 113
noncomputable abbrev f_rotor_section_thrust_1 : Func := Tryd.f113
theorem h_rotor_section_thrust_1 : prog.funcs[n_rotor_section_thrust_1]? = some f_rotor_section_thrust_1 := Tryd.func113
abbrev n_rotor_section_torque_1 : Nat := 114
noncomputable abbrev f_rotor_section_torque_1 : Func := Tryd.f114
theorem h_rotor_section_torque_1 : prog.funcs[n_rotor_section_torque_1]? = some f_rotor_section_torque_1 := Tryd.func114
abbrev n_rotor_section_shift : Nat := 115
noncomputable abbrev f_rotor_section_shift : Func := Tryd.f115
theorem h_rotor_section_shift : prog.funcs[n_rotor_section_shift]? = some f_rotor_section_shift := Tryd.func115
abbrev n_strings_Builder_Grow : Nat := 116
noncomputable abbrev f_strings_Builder_Grow : Func := Tryd.f116
theorem h_strings_Builder_Grow : prog.funcs[n_strings_Builder_Grow]? = some f_strings_Builder_Grow := Tryd.func116
abbrev n_strings_Builder_WriteString : Nat := 117
noncomputable abbrev f_strings_Builder_WriteString : Func := Tryd.f117
theorem h_strings_Builder_WriteString : prog.funcs[n_strings_Builder_WriteString]? = some f_strings_Builder_WriteString := Tryd.func117
abbrev n_strings_Builder_String : Nat := 118
noncomputable abbrev f_strings_Builder_String : Func := Tryd.f118
theorem h_strings_Builder_String : prog.funcs[n_strings_Builder_String]? = some f_strings_Builder_String := Tryd.func118
abbrev n_internal_strconv_Itoa : Nat := 119
noncomputable abbrev f_internal_strconv_Itoa : Func := Tryd.f119
theorem h_internal_strconv_Itoa : prog.funcs[n_internal_strconv_Itoa]? = some f_internal_strconv_Itoa := Tryd.func119
abbrev n_rotor_sections_1 : Nat := 120
noncomputable abbrev f_rotor_sections_1 : Func := Tryd.f120
theorem h_rotor_sections_1 : prog.funcs[n_rotor_sections_1]? = some f_rotor_sections_1 := Tryd.func120
abbrev n_strings_Builder_copyCheck : Nat := 121
noncomputable abbrev f_strings_Builder_copyCheck : Func := Tryd.f121
theorem h_strings_Builder_copyCheck : prog.funcs[n_strings_Builder_copyCheck]? = some f_strings_Builder_copyCheck := Tryd.func121
abbrev n_strings_Builder_grow : Nat := 122
noncomputable abbrev f_strings_Builder_grow : Func := Tryd.f122
theorem h_strings_Builder_grow : prog.funcs[n_strings_Builder_grow]? = some f_strings_Builder_grow := Tryd.func122
abbrev n_internal_strconv_FormatInt : Nat := 123
noncomputable abbrev f_internal_strconv_FormatInt : Func := Tryd.f123
theorem h_internal_strconv_FormatInt : prog.funcs[n_internal_strconv_FormatInt]? = some f_internal_strconv_FormatInt := Tryd.func123
abbrev n_internal_abi_NoEscape : Nat := 124
noncomputable abbrev f_internal_abi_NoEscape : Func := Tryd.f124
theorem h_internal_abi_NoEscape : prog.funcs[n_internal_abi_NoEscape]? = some f_internal_abi_NoEscape := Tryd.func124
abbrev n_internal_bytealg_MakeNoZero : Nat := 125
noncomputable abbrev f_internal_bytealg_MakeNoZero : Func := Tryd.f125
theorem h_internal_bytealg_MakeNoZero : prog.funcs[n_internal_bytealg_MakeNoZero]? = some f_internal_bytealg_MakeNoZero := Tryd.func125
abbrev n_internal_strconv_small : Nat := 126
noncomputable abbrev f_internal_strconv_small : Func := Tryd.f126
theorem h_internal_strconv_small : prog.funcs[n_internal_strconv_small]? = some f_internal_strconv_small := Tryd.func126
abbrev n_internal_strconv_numDigits : Nat := 127
noncomputable abbrev f_internal_strconv_numDigits : Func := Tryd.f127
theorem h_internal_strconv_numDigits : prog.funcs[n_internal_strconv_numDigits]? = some f_internal_strconv_numDigits := Tryd.func127
abbrev n_internal_strconv_formatBase10 : Nat := 128
noncomputable abbrev f_internal_strconv_formatBase10 : Func := Tryd.f128
theorem h_internal_strconv_formatBase10 : prog.funcs[n_internal_strconv_formatBase10]? = some f_internal_strconv_formatBase10 := Tryd.func128
abbrev n_internal_strconv_formatBits : Nat := 129
noncomputable abbrev f_internal_strconv_formatBits : Func := Tryd.f129
theorem h_internal_strconv_formatBits : prog.funcs[n_internal_strconv_formatBits]? = some f_internal_strconv_formatBits := Tryd.func129
abbrev n_internal_strconv_log10Pow2 : Nat := 130
noncomputable abbrev f_internal_strconv_log10Pow2 : Func := Tryd.f130
theorem h_internal_strconv_log10Pow2 : prog.funcs[n_internal_strconv_log10Pow2]? = some f_internal_strconv_log10Pow2 := Tryd.func130
abbrev n_math_bits_Len64 : Nat := 131
noncomputable abbrev f_math_bits_Len64 : Func := Tryd.f131
theorem h_math_bits_Len64 : prog.funcs[n_math_bits_Len64]? = some f_math_bits_Len64 := Tryd.func131
abbrev n_internal_strconv_bool2_int : Nat := 132
noncomputable abbrev f_internal_strconv_bool2_int : Func := Tryd.f132
theorem h_internal_strconv_bool2_int : prog.funcs[n_internal_strconv_bool2_int]? = some f_internal_strconv_bool2_int := Tryd.func132
abbrev n_internal_strconv_isPowerOfTwo : Nat := 133
noncomputable abbrev f_internal_strconv_isPowerOfTwo : Func := Tryd.f133
theorem h_internal_strconv_isPowerOfTwo : prog.funcs[n_internal_strconv_isPowerOfTwo]? = some f_internal_strconv_isPowerOfTwo := Tryd.func133
abbrev n_math_bits_TrailingZeros : Nat := 134
noncomputable abbrev f_math_bits_TrailingZeros : Func := Tryd.f134
theorem h_math_bits_TrailingZeros : prog.funcs[n_math_bits_TrailingZeros]? = some f_math_bits_TrailingZeros := Tryd.func134
abbrev n_math_bits_TrailingZeros32 : Nat := 135
noncomputable abbrev f_math_bits_TrailingZeros32 : Func := Tryd.f135
theorem h_math_bits_TrailingZeros32 : prog.funcs[n_math_bits_TrailingZeros32]? = some f_math_bits_TrailingZeros32 := Tryd.func135
abbrev n_math_bits_TrailingZeros64 : Nat := 136
noncomputable abbrev f_math_bits_TrailingZeros64 : Func := Tryd.f136
theorem h_math_bits_TrailingZeros64 : prog.funcs[n_math_bits_TrailingZeros64]? = some f_math_bits_TrailingZeros64 := Tryd.func136
abbrev n_runtime_boundsError_Error : Nat := 137
noncomputable abbrev f_runtime_boundsError_Error : Func := Tryd.f137
theorem h_runtime_boundsError_Error : prog.funcs[n_runtime_boundsError_Error]? = some f_runtime_boundsError_Error := Tryd.func137
abbrev n_runtime_boundsError_RuntimeError : Nat := 138
noncomputable abbrev f_runtime_boundsError_RuntimeError : Func := Tryd.f138
theorem h_runtime_boundsError_RuntimeError : prog.funcs[n_runtime_boundsError_RuntimeError]? = some f_runtime_boundsError_RuntimeError := Tryd.func138
abbrev n_runtime_errorString_Error : Nat := 139
noncomputable abbrev f_runtime_errorString_Error : Func := Tryd.f139
theorem h_runtime_errorString_Error : prog.funcs[n_runtime_errorString_Error]? = some f_runtime_errorString_Error := Tryd.func139
abbrev n_runtime_errorString_RuntimeError : Nat := 140
noncomputable abbrev f_runtime_errorString_RuntimeError : Func := Tryd.f140
theorem h_runtime_errorString_RuntimeError : prog.funcs[n_runtime_errorString_RuntimeError]? = some f_runtime_errorString_RuntimeError := Tryd.func140
abbrev n_runtime_plainError_Error : Nat := 141
noncomputable abbrev f_runtime_plainError_Error : Func := Tryd.f141
theorem h_runtime_plainError_Error : prog.funcs[n_runtime_plainError_Error]? = some f_runtime_plainError_Error := Tryd.func141
abbrev n_runtime_plainError_RuntimeError : Nat := 142
noncomputable abbrev f_runtime_plainError_RuntimeError : Func := Tryd.f142
theorem h_runtime_plainError_RuntimeError : prog.funcs[n_runtime_plainError_RuntimeError]? = some f_runtime_plainError_RuntimeError := Tryd.func142
abbrev n_runtime_errorAddressString_Error : Nat := 143
noncomputable abbrev f_runtime_errorAddressString_Error : Func := Tryd.f143
theorem h_runtime_errorAddressString_Error : prog.funcs[n_runtime_errorAddressString_Error]? = some f_runtime_errorAddressString_Error := Tryd.func143
abbrev n_runtime_errorAddressString_RuntimeError : Nat := 144
noncomputable abbrev f_runtime_errorAddressString_RuntimeError : Func := Tryd.f144
theorem h_runtime_errorAddressString_RuntimeError : prog.funcs[n_runtime_errorAddressString_RuntimeError]? = some f_runtime_errorAddressString_RuntimeError := Tryd.func144
abbrev n_runtime_TypeAssertionError_Error : Nat := 145
noncomputable abbrev f_runtime_TypeAssertionError_Error : Func := Tryd.f145
theorem h_runtime_TypeAssertionError_Error : prog.funcs[n_runtime_TypeAssertionError_Error]? = some f_runtime_TypeAssertionError_Error := Tryd.func145
abbrev n_runtime_TypeAssertionError_RuntimeError : Nat := 146
noncomputable abbrev f_runtime_TypeAssertionError_RuntimeError : Func := Tryd.f146
theorem h_runtime_TypeAssertionError_RuntimeError : prog.funcs[n_runtime_TypeAssertionError_RuntimeError]? = some f_runtime_TypeAssertionError_RuntimeError := Tryd.func146
abbrev n_runtime_PanicNilError_Error : Nat := 147
noncomputable abbrev f_runtime_PanicNilError_Error : Func := Tryd.f147
theorem h_runtime_PanicNilError_Error : prog.funcs[n_runtime_PanicNilError_Error]? = some f_runtime_PanicNilError_Error := Tryd.func147
abbrev n_runtime_PanicNilError_RuntimeError : Nat := 148
noncomputable abbrev f_runtime_PanicNilError_RuntimeError : Func := Tryd.f148
theorem h_runtime_PanicNilError_RuntimeError : prog.funcs[n_runtime_PanicNilError_RuntimeError]? = some f_runtime_PanicNilError_RuntimeError := Tryd.func148
abbrev n_internal_abi_Type_Align : Nat := 149
noncomputable abbrev f_internal_abi_Type_Align : Func := Tryd.f149
theorem h_internal_abi_Type_Align : prog.funcs[n_internal_abi_Type_Align]? = some f_internal_abi_Type_Align := Tryd.func149
abbrev n_internal_runtime_maps_unhashableTypeError_Error : Nat := 150
noncomputable abbrev f_internal_runtime_maps_unhashableTypeError_Error : Func := Tryd.f150
theorem h_internal_runtime_maps_unhashableTypeError_Error : prog.funcs[n_internal_runtime_maps_unhashableTypeError_Error]? = some f_internal_runtime_maps_unhashableTypeError_Error := Tryd.func150
abbrev n_internal_runtime_maps_unhashableTypeError_RuntimeError : Nat := 151
noncomputable abbrev f_internal_runtime_maps_unhashableTypeError_RuntimeError : Func := Tryd.f151
theorem h_internal_runtime_maps_unhashableTypeError_RuntimeError : prog.funcs[n_internal_runtime_maps_unhashableTypeError_RuntimeError]? = some f_internal_runtime_maps_unhashableTypeError_RuntimeError := Tryd.func151
abbrev n_strings_Builder_Reset : Nat := 152
noncomputable abbrev f_strings_Builder_Reset : Func := Tryd.f152
theorem h_strings_Builder_Reset : prog.funcs[n_strings_Builder_Reset]? = some f_strings_Builder_Reset := Tryd.func152
abbrev n_internal_abi_Kind_String : Nat := 153
noncomputable abbrev f_internal_abi_Kind_String : Func := Tryd.f153
theorem h_internal_abi_Kind_String : prog.funcs[n_internal_abi_Kind_String]? = some f_internal_abi_Kind_String := Tryd.func153
abbrev n_var_s_door_gosem_cut_vars_holds_initialisers_alone_see_the_manifest_s_row_cutvarsword_look_11_test_files_too : Nat := 154
noncomputable abbrev f_var_s_door_gosem_cut_vars_holds_initialisers_alone_see_the_manifest_s_row_cutvarsword_look_11_test_files_too : Func := Tryd.f154
theorem h_var_s_door_gosem_cut_vars_holds_initialisers_alone_see_the_manifest_s_row_cutvarsword_look_11_test_files_too : prog.funcs[n_var_s_door_gosem_cut_vars_holds_initialisers_alone_see_the_manifest_s_row_cutvarsword_look_11_test_files_too]? = some f_var_s_door_gosem_cut_vars_holds_initialisers_alone_see_the_manifest_s_row_cutvarsword_look_11_test_files_too := Tryd.func154
abbrev n_var_s_door_internal_strconv_uint64pow10_is_laid_by_its_own_initialiser_plain_data_look_11 : Nat := 155
noncomputable abbrev f_var_s_door_internal_strconv_uint64pow10_is_laid_by_its_own_initialiser_plain_data_look_11 : Func := Tryd.f155
theorem h_var_s_door_internal_strconv_uint64pow10_is_laid_by_its_own_initialiser_plain_data_look_11 : prog.funcs[n_var_s_door_internal_strconv_uint64pow10_is_laid_by_its_own_initialiser_plain_data_look_11]? = some f_var_s_door_internal_strconv_uint64pow10_is_laid_by_its_own_initialiser_plain_data_look_11 := Tryd.func155
abbrev n_var_s_door_math_bits_deBruijn32tab_is_laid_by_its_own_initialiser_plain_data_look_11 : Nat := 156
noncomputable abbrev f_var_s_door_math_bits_deBruijn32tab_is_laid_by_its_own_initialiser_plain_data_look_11 : Func := Tryd.f156
theorem h_var_s_door_math_bits_deBruijn32tab_is_laid_by_its_own_initialiser_plain_data_look_11 : prog.funcs[n_var_s_door_math_bits_deBruijn32tab_is_laid_by_its_own_initialiser_plain_data_look_11]? = some f_var_s_door_math_bits_deBruijn32tab_is_laid_by_its_own_initialiser_plain_data_look_11 := Tryd.func156
abbrev n_var_s_door_math_bits_deBruijn64tab_is_laid_by_its_own_initialiser_plain_data_look_11 : Nat := 157
noncomputable abbrev f_var_s_door_math_bits_deBruijn64tab_is_laid_by_its_own_initialiser_plain_data_look_11 : Func := Tryd.f157
theorem h_var_s_door_math_bits_deBruijn64tab_is_laid_by_its_own_initialiser_plain_data_look_11 : prog.funcs[n_var_s_door_math_bits_deBruijn64tab_is_laid_by_its_own_initialiser_plain_data_look_11]? = some f_var_s_door_math_bits_deBruijn64tab_is_laid_by_its_own_initialiser_plain_data_look_11 := Tryd.func157
abbrev n_var_s_door_rotor_roots_is_laid_by_its_own_initialiser_plain_data_look_11 : Nat := 158
noncomputable abbrev f_var_s_door_rotor_roots_is_laid_by_its_own_initialiser_plain_data_look_11 : Func := Tryd.f158
theorem h_var_s_door_rotor_roots_is_laid_by_its_own_initialiser_plain_data_look_11 : prog.funcs[n_var_s_door_rotor_roots_is_laid_by_its_own_initialiser_plain_data_look_11]? = some f_var_s_door_rotor_roots_is_laid_by_its_own_initialiser_plain_data_look_11 := Tryd.func158
abbrev n_var_s_door_the_look_of_gosem_cut_vars_went_over_the_folder_that_the_caller_named_as_the_repository_s_root_look_11 : Nat := 159
noncomputable abbrev f_var_s_door_the_look_of_gosem_cut_vars_went_over_the_folder_that_the_caller_named_as_the_repository_s_root_look_11 : Func := Tryd.f159
theorem h_var_s_door_the_look_of_gosem_cut_vars_went_over_the_folder_that_the_caller_named_as_the_repository_s_root_look_11 : prog.funcs[n_var_s_door_the_look_of_gosem_cut_vars_went_over_the_folder_that_the_caller_named_as_the_repository_s_root_look_11]? = some f_var_s_door_the_look_of_gosem_cut_vars_went_over_the_folder_that_the_caller_named_as_the_repository_s_root_look_11 := Tryd.func159
abbrev n_gosem_cut_vars : Nat := 160
noncomputable abbrev f_gosem_cut_vars : Func := Tryd.f160
theorem h_gosem_cut_vars : prog.funcs[n_gosem_cut_vars]? = some f_gosem_cut_vars := Tryd.func160
abbrev g_rotor_roots : Nat := 0
abbrev g_internal_bytealg_MaxLen : Nat := 1
abbrev g_internal_strconv_uint64pow10 : Nat := 2
abbrev g_math_bits_deBruijn32tab : Nat := 3
abbrev g_math_bits_deBruijn64tab : Nat := 4
end Go.Proofs.YtllmejkmogepjaaDoor.Ix
