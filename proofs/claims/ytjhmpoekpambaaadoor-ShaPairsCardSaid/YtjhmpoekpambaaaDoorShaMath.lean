/-
  SHA-256 on plain data, as layer 4's code reckons: words, a block's schedule, its rounds; the digest. No program in sight.
-/
import Derived.Laws.BitsAllLaws
import Derived.WalkKit
open Go Go.RowKit
namespace Go.Proofs.YtjhmpoekpambaaaDoor.Sha

def rotr (x : UInt32) (n : Nat) : UInt32 := (x >>> (UInt32.ofNat n)) ||| (x <<< (UInt32.ofNat (32 - n)))
def s0 (x : UInt32) : UInt32 := rotr x 7 ^^^ rotr x 18 ^^^ (x >>> 3)
def s1 (x : UInt32) : UInt32 := rotr x 17 ^^^ rotr x 19 ^^^ (x >>> 10)
def word (bs : List UInt8) (t : Nat) : UInt32 :=
  (((bs.getD (4 * t) 0).toUInt32 <<< 24 ||| (bs.getD (4 * t + 1) 0).toUInt32 <<< 16) ||| (bs.getD (4 * t + 2) 0).toUInt32 <<< 8) ||| (bs.getD (4 * t + 3) 0).toUInt32
def firsts (bs : List UInt8) (k : Nat) : List UInt32 := (List.range k).map (word bs)
def next (l : List UInt32) : UInt32 := ((s1 (l.getD (l.length - 2) 0) + l.getD (l.length - 7) 0) + s0 (l.getD (l.length - 15) 0)) + l.getD (l.length - 16) 0
def ext (l : List UInt32) : Nat → List UInt32
  | 0 => l
  | k + 1 => ext l k ++ [next (ext l k)]
def sched (bs : List UInt8) : List UInt32 := ext (firsts bs 16) 48
structure S8 where
  (a b c d e f g h : UInt32)
def S8.get (s : S8) : Nat → UInt32
  | 0 => s.a | 1 => s.b | 2 => s.c | 3 => s.d | 4 => s.e | 5 => s.f | 6 => s.g | _ => s.h
def tx (s : S8) (k w : UInt32) : UInt32 := (((s.h + ((rotr s.e 6 ^^^ rotr s.e 11) ^^^ rotr s.e 25)) + ((s.e &&& s.f) ^^^ (~~~s.e &&& s.g))) + k) + w
def ty (s : S8) : UInt32 := ((rotr s.a 2 ^^^ rotr s.a 13) ^^^ rotr s.a 22) + (((s.a &&& s.b) ^^^ (s.a &&& s.c)) ^^^ (s.b &&& s.c))
def round (s : S8) (k w : UInt32) : S8 := ⟨tx s k w + ty s, s.a, s.b, s.c, s.d + tx s k w, s.e, s.f, s.g⟩
def Ks : List UInt32 := [1116352408, 1899447441, 3049323471, 3921009573, 961987163, 1508970993, 2453635748, 2870763221, 3624381080, 310598401, 607225278, 1426881987, 1925078388, 2162078206, 2614888103, 3248222580, 3835390401, 4022224774, 264347078, 604807628, 770255983, 1249150122, 1555081692, 1996064986, 2554220882, 2821834349, 2952996808, 3210313671, 3336571891, 3584528711, 113926993, 338241895, 666307205, 773529912, 1294757372, 1396182291, 1695183700, 1986661051, 2177026350, 2456956037, 2730485921, 2820302411, 3259730800, 3345764771, 3516065817, 3600352804, 4094571909, 275423344, 430227734, 506948616, 659060556, 883997877, 958139571, 1322822218, 1537002063, 1747873779, 1955562222, 2024104815, 2227730452, 2361852424, 2428436474, 2756734187, 3204031479, 3329325298]
def H0 : S8 := ⟨1779033703, 3144134277, 1013904242, 2773480762, 1359893119, 2600822924, 528734635, 1541459225⟩
def rnds (s : S8) (ws : List UInt32) : Nat → S8
  | 0 => s
  | t + 1 => round (rnds s ws t) (Ks.getD t 0) (ws.getD t 0)
def plus (s t : S8) : S8 := ⟨s.a + t.a, s.b + t.b, s.c + t.c, s.d + t.d, s.e + t.e, s.f + t.f, s.g + t.g, s.h + t.h⟩
def mixF (s : S8) (bs : List UInt8) : S8 := plus s (rnds s (sched bs) 64)

/-! ### The walk's numbers as words -/
/-- A word as the walk's number; a name of its own, so that nothing is pushed into it. -/
def U (x : UInt32) : Int := (x.toNat : Int)
theorem U_pos (a : UInt32) : 0 ≤ U a := by unfold U; omega
theorem U_lt (a : UInt32) : U a < 4294967296 := by
  have := a.toNat_lt
  unfold U; omega
theorem u_lt (a : UInt32) : a.toNat < 4294967296 := a.toNat_lt
@[go_sem] theorem add_u (a b : UInt32) : (U a + U b) % 4294967296 = U (a + b) := by
  unfold U
  rw [UInt32.toNat_add]; omega
@[go_sem] theorem xor_u (a b : UInt32) : bits .xor .u32 (U a) (U b) = U (a ^^^ b) := by
  unfold U
  rw [u32_xor_nat _ _ (u_lt a) (u_lt b), UInt32.toNat_xor]
@[go_sem] theorem and_u (a b : UInt32) : bits .and .u32 (U a) (U b) = U (a &&& b) := by
  unfold U
  rw [u32_and_nat _ _ (u_lt a) (u_lt b), UInt32.toNat_and]
@[go_sem] theorem or_u (a b : UInt32) : bits .or .u32 (U a) (U b) = U (a ||| b) := by
  unfold U
  rw [u32_or_nat _ _ (u_lt a) (u_lt b), UInt32.toNat_or]
@[go_sem] theorem not_u (a : UInt32) : bits .xor .u32 IntKind.u32.max (U a) = U (~~~a) := by
  rw [show IntKind.u32.max = U 4294967295 from by decide, xor_u]
  congr 1
@[go_sem] theorem not_u2 (a : UInt32) : bits .xor .u32 (if IntKind.u32.signed = true then -1 else IntKind.u32.max) (U a) = U (~~~a) := not_u a
theorem shr_u (a : UInt32) (n : Nat) (hn : n < 32) : U a / ((2 ^ n : Nat) : Int) = U (a >>> (UInt32.ofNat n)) := by
  unfold U
  rw [UInt32.toNat_shiftRight, UInt32.toNat_ofNat_of_lt' (show n < 4294967296 by omega), Nat.mod_eq_of_lt hn, Nat.shiftRight_eq_div_pow]
  omega
theorem shl_u (a : UInt32) (n : Nat) (hn : n < 32) : U a * ((2 ^ n : Nat) : Int) % 4294967296 = U (a <<< (UInt32.ofNat n)) := by
  unfold U
  rw [UInt32.toNat_shiftLeft, UInt32.toNat_ofNat_of_lt' (show n < 4294967296 by omega), Nat.mod_eq_of_lt hn, Nat.shiftLeft_eq]
  omega
theorem byte_u (c : UInt8) : (c.toNat : Int) = ((c.toUInt32).toNat : Int) := by simp
end Go.Proofs.YtjhmpoekpambaaaDoor.Sha
