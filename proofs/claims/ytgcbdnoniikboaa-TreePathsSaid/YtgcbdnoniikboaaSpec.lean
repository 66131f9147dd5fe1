/- SHA-256 in plain Lean: what both texts are held against. No program in sight. -/
import Derived.Test.YtgcbdnoniikboaaPure
import Derived.Test.YtgcbdnoniikboaaMem
namespace Go.Proofs.Ytgcbdnoniikboaa

/-- to the right, by n -/
def rotr (x : UInt32) (n : Nat) : UInt32 := x >>> UInt32.ofNat n ||| x <<< UInt32.ofNat (32 - n)
/-- four bytes, the highest first -/
def be4 (a b c d : UInt8) : UInt32 := UInt32.ofNat (((a.toNat * 256 + b.toNat) * 256 + c.toNat) * 256 + d.toNat)
theorem be4_toNat (a b c d : UInt8) : (be4 a b c d).toNat = ((a.toNat * 256 + b.toNat) * 256 + c.toNat) * 256 + d.toNat := by
  have ha := u8_lt a
  have hb := u8_lt b
  have hc := u8_lt c
  have hd := u8_lt d
  unfold be4
  rw [UInt32.toNat_ofNat']
  omega

def K256 : List UInt32 := [
  0x428a2f98, 0x71374491, 0xb5c0fbcf, 0xe9b5dba5, 0x3956c25b, 0x59f111f1, 0x923f82a4, 0xab1c5ed5,
  0xd807aa98, 0x12835b01, 0x243185be, 0x550c7dc3, 0x72be5d74, 0x80deb1fe, 0x9bdc06a7, 0xc19bf174,
  0xe49b69c1, 0xefbe4786, 0x0fc19dc6, 0x240ca1cc, 0x2de92c6f, 0x4a7484aa, 0x5cb0a9dc, 0x76f988da,
  0x983e5152, 0xa831c66d, 0xb00327c8, 0xbf597fc7, 0xc6e00bf3, 0xd5a79147, 0x06ca6351, 0x14292967,
  0x27b70a85, 0x2e1b2138, 0x4d2c6dfc, 0x53380d13, 0x650a7354, 0x766a0abb, 0x81c2c92e, 0x92722c85,
  0xa2bfe8a1, 0xa81a664b, 0xc24b8b70, 0xc76c51a3, 0xd192e819, 0xd6990624, 0xf40e3585, 0x106aa070,
  0x19a4c116, 0x1e376c08, 0x2748774c, 0x34b0bcb5, 0x391c0cb3, 0x4ed8aa4a, 0x5b9cca4f, 0x682e6ff3,
  0x748f82ee, 0x78a5636f, 0x84c87814, 0x8cc70208, 0x90befffa, 0xa4506ceb, 0xbef9a3f7, 0xc67178f2]
def H256 : List UInt32 := [0x6a09e667, 0xbb67ae85, 0x3c6ef372, 0xa54ff53a, 0x510e527f, 0x9b05688c, 0x1f83d9ab, 0x5be0cd19]

/-- the word t out of a block's bytes -/
def wordAt (bl : List UInt8) (t : Nat) : UInt32 := be4 (bl.getD (4 * t) 0) (bl.getD (4 * t + 1) 0) (bl.getD (4 * t + 2) 0) (bl.getD (4 * t + 3) 0)
def sig0 (x : UInt32) : UInt32 := rotr x 7 ^^^ rotr x 18 ^^^ x >>> 3
def sig1 (x : UInt32) : UInt32 := rotr x 17 ^^^ rotr x 19 ^^^ x >>> 10
/-- the word t, of its first i bytes -/
def partW (bl : List UInt8) (t : Nat) : Nat → UInt32
  | 0 => 0
  | i + 1 => partW bl t i * 256 + (bl.getD (4 * t + i) 0).toUInt32
/-- the next word of the schedule -/
def nextW (w : List UInt32) : UInt32 := w.getD (w.length - 16) 0 + w.getD (w.length - 7) 0 + sig0 (w.getD (w.length - 15) 0) + sig1 (w.getD (w.length - 2) 0)
/-- the first t words -/
def firstW (bl : List UInt8) (t : Nat) : List UInt32 := (List.range t).map (wordAt bl)
/-- n more words -/
def moreW : Nat → List UInt32 → List UInt32
  | 0, w => w
  | n + 1, w => let w' := moreW n w; w' ++ [nextW w']
def sched (bl : List UInt8) : List UInt32 := moreW 48 (firstW bl 16)

theorem length_firstW (bl : List UInt8) (t : Nat) : (firstW bl t).length = t := by simp [firstW]
theorem firstW_succ (bl : List UInt8) (t : Nat) : firstW bl (t + 1) = firstW bl t ++ [wordAt bl t] := by simp [firstW, List.range_succ]
theorem length_moreW (n : Nat) (w : List UInt32) : (moreW n w).length = w.length + n := by
  induction n with
  | zero => rfl
  | succ n ih => simp [moreW, ih]; omega

/-- words' operations behind names that the walk does not open -/
def add32 (x y : UInt32) : UInt32 := x + y
def xor32 (x y : UInt32) : UInt32 := x ^^^ y
def and32 (x y : UInt32) : UInt32 := x &&& y
def not32 (x : UInt32) : UInt32 := ~~~ x
theorem add32_i (x y : UInt32) : ((x.toNat : Int) + (y.toNat : Int)) % 4294967296 = ((add32 x y).toNat : Int) := wadd32' x y
theorem xor32_i (x y : UInt32) : bits .xor .u32 (x.toNat : Int) (y.toNat : Int) = ((xor32 x y).toNat : Int) := bxor32 x y
theorem and32_i (x y : UInt32) : bits .and .u32 (x.toNat : Int) (y.toNat : Int) = ((and32 x y).toNat : Int) := band32 x y

theorem add32_w (x y : UInt32) : IntKind.u32.wrap ((x.toNat : Int) + (y.toNat : Int)) = ((add32 x y).toNat : Int) := wadd32 x y
theorem not32_i (x : UInt32) : bits .xor .u32 (if IntKind.u32.signed = true then -1 else IntKind.u32.max) (x.toNat : Int) = ((not32 x).toNat : Int) := by
  have e : (if IntKind.u32.signed = true then -1 else IntKind.u32.max) = (((4294967295 : UInt32).toNat : Nat) : Int) := by decide
  rw [e, bxor32]
  have h : (4294967295 : UInt32) ^^^ x = ~~~ x := by
    apply UInt32.eq_of_toBitVec_eq
    show BitVec.allOnes 32 ^^^ x.toBitVec = ~~~ x.toBitVec
    rw [BitVec.xor_comm, BitVec.xor_allOnes]
  rw [h]
  rfl

def mul256 (x : UInt32) : UInt32 := x * 256
theorem mul256_w (x : UInt32) : IntKind.u32.wrap ((x.toNat : Int) * 256) = ((mul256 x).toNat : Int) := by
  have := wmul32 x 256
  exact this
theorem mul256_i (x : UInt32) : (x.toNat : Int) * 256 % 4294967296 = ((mul256 x).toNat : Int) := by
  rw [← mul256_w, IntKind.wrap_u32']
def up32 (x : UInt8) : UInt32 := x.toUInt32
theorem up32_w (x : UInt8) : IntKind.u32.wrap (x.toNat : Int) = ((up32 x).toNat : Int) := by
  have := u8_lt x
  rw [IntKind.wrap_u32', up32, UInt8.toNat_toUInt32]; omega
theorem up32_i (x : UInt8) : (x.toNat : Int) % 4294967296 = ((up32 x).toNat : Int) := by
  rw [← up32_w, IntKind.wrap_u32']
theorem partW_succ (bl : List UInt8) (t i : Nat) : partW bl t (i + 1) = add32 (mul256 (partW bl t i)) (up32 (bl.getD (4 * t + i) 0)) := rfl
theorem partW_four (bl : List UInt8) (t : Nat) : partW bl t 4 = wordAt bl t := by
  apply UInt32.toNat.inj
  have h0 := u8_lt (bl.getD (4 * t) 0)
  have h1 := u8_lt (bl.getD (4 * t + 1) 0)
  have h2 := u8_lt (bl.getD (4 * t + 2) 0)
  have h3 := u8_lt (bl.getD (4 * t + 3) 0)
  simp only [partW, wordAt, be4_toNat, UInt32.toNat_add, UInt32.toNat_mul, UInt8.toNat_toUInt32, Nat.add_zero, UInt32.toNat_ofNat]
  omega

def shr3 (x : UInt32) : UInt32 := x >>> 3
def shr10 (x : UInt32) : UInt32 := x >>> 10
theorem shr3_i (x : UInt32) : (x.toNat : Int) / (8 : Int) = ((shr3 x).toNat : Int) := shr32 x 3 (by omega)
theorem shr10_i (x : UInt32) : (x.toNat : Int) / (1024 : Int) = ((shr10 x).toNat : Int) := shr32 x 10 (by omega)

structure S8 where
  a : UInt32
  b : UInt32
  c : UInt32
  d : UInt32
  e : UInt32
  f : UInt32
  g : UInt32
  h : UInt32

def S8.list (s : S8) : List UInt32 := [s.a, s.b, s.c, s.d, s.e, s.f, s.g, s.h]
def S8.of (l : List UInt32) : S8 := ⟨l.getD 0 0, l.getD 1 0, l.getD 2 0, l.getD 3 0, l.getD 4 0, l.getD 5 0, l.getD 6 0, l.getD 7 0⟩
def big1 (e : UInt32) : UInt32 := rotr e 6 ^^^ rotr e 11 ^^^ rotr e 25
def big0 (a : UInt32) : UInt32 := rotr a 2 ^^^ rotr a 13 ^^^ rotr a 22
def tempX (s : S8) (k w : UInt32) : UInt32 := s.h + big1 s.e + (s.e &&& s.f ^^^ ~~~ s.e &&& s.g) + k + w
def tempY (s : S8) : UInt32 := big0 s.a + (s.a &&& s.b ^^^ s.a &&& s.c ^^^ s.b &&& s.c)
def S8.round (s : S8) (k w : UInt32) : S8 := ⟨tempX s k w + tempY s, s.a, s.b, s.c, s.d + tempX s k w, s.e, s.f, s.g⟩
/-- the first t rounds -/
def S8.rounds (s : S8) (ws : List UInt32) : Nat → S8
  | 0 => s
  | t + 1 => (S8.rounds s ws t).round (K256.getD t 0) (ws.getD t 0)
def S8.plus (s v : S8) : S8 := ⟨v.a + s.a, v.b + s.b, v.c + s.c, v.d + s.d, v.e + s.e, v.f + s.f, v.g + s.g, v.h + s.h⟩
/-- a block turns a state -/
def S8.block (s : S8) (bl : List UInt8) : S8 := s.plus (s.rounds (sched bl) 64)

/-- the two steps in which the program makes the next word, in the model's own spelling -/
theorem step_sig0 (y x : UInt32) : ((y.toNat : Int) + bits .xor .u32 (bits .xor .u32 ((rotr x 7).toNat : Int) ((rotr x 18).toNat : Int)) ((x.toNat : Int) / (8 : Int))) % 4294967296 = ((y + sig0 x).toNat : Int) := by
  have e : (x.toNat : Int) / (8 : Int) = ((x >>> 3).toNat : Int) := shr32 x 3 (by omega)
  rw [e, bxor32, bxor32]
  exact wadd32' _ _
theorem step_sig1 (y x : UInt32) : ((y.toNat : Int) + bits .xor .u32 (bits .xor .u32 ((rotr x 17).toNat : Int) ((rotr x 19).toNat : Int)) ((x.toNat : Int) / (1024 : Int))) % 4294967296 = ((y + sig1 x).toNat : Int) := by
  have e : (x.toNat : Int) / (1024 : Int) = ((x >>> 10).toNat : Int) := shr32 x 10 (by omega)
  rw [e, bxor32, bxor32]
  exact wadd32' _ _
theorem nextW_take (L : List UInt32) (t : Nat) (h1 : 16 ≤ t) (h2 : t ≤ L.length) :
    nextW (L.take t) = L.getD (t - 16) 0 + L.getD (t - 7) 0 + sig0 (L.getD (t - 15) 0) + sig1 (L.getD (t - 2) 0) := by
  have hl : (L.take t).length = t := by simp; omega
  unfold nextW
  rw [hl, getD_take _ _ _ _ (by omega), getD_take _ _ _ _ (by omega), getD_take _ _ _ _ (by omega), getD_take _ _ _ _ (by omega)]
theorem moreW_succ (n : Nat) (w : List UInt32) : moreW (n + 1) w = moreW n w ++ [nextW (moreW n w)] := rfl
theorem length_K256 : K256.length = 64 := rfl
theorem length_list (s : S8) : s.list.length = 8 := rfl
theorem of_list (l : List UInt32) (h : l.length = 8) : (S8.of l).list = l := by
  match l, h with
  | [a, b, c, d, e, f, g, h], _ => rfl
theorem of_list' (s : S8) : S8.of s.list = s := rfl
end Go.Proofs.Ytgcbdnoniikboaa
