/- Sets as numbers: and, or, xor, and not, shifts of whole numbers that are not negative. -/
import Derived.Test.YtpehnhjgdgnnkaaEngY
namespace Go.Eng
def bAnd (k : IntKind) (x y : Int) : Int := k.wrap (BitVec.ofInt k.bits x &&& BitVec.ofInt k.bits y).toNat
def bOr (k : IntKind) (x y : Int) : Int := k.wrap (BitVec.ofInt k.bits x ||| BitVec.ofInt k.bits y).toNat
def bXor (k : IntKind) (x y : Int) : Int := k.wrap (BitVec.ofInt k.bits x ^^^ BitVec.ofInt k.bits y).toNat
def bAndNot (k : IntKind) (x y : Int) : Int := k.wrap (BitVec.ofInt k.bits x &&& ~~~(BitVec.ofInt k.bits y)).toNat
def bShl (k : IntKind) (x y : Int) : Int := k.wrap (x * 2 ^ min y.toNat k.bits)
def bShr (k : IntKind) (x y : Int) : Int := x.fdiv (2 ^ min y.toNat k.bits)

theorem ofInt_nat (x : Int) (hx : 0 ≤ x) (h2 : x < 9223372036854775808) : (BitVec.ofInt 64 x).toNat = x.toNat := by
  obtain ⟨n, rfl⟩ : ∃ n : Nat, x = n := ⟨x.toNat, by omega⟩
  rw [BitVec.ofInt_natCast, BitVec.toNat_ofNat]
  simp
  omega
theorem bAnd_nat (x y : Int) (hx : 0 ≤ x) (hx2 : x < 9223372036854775808) (hy : 0 ≤ y) (hy2 : y < 9223372036854775808) : bAnd .i64 x y = ((x.toNat &&& y.toNat : Nat) : Int) := by
  unfold bAnd
  have e : (BitVec.ofInt IntKind.i64.bits x &&& BitVec.ofInt IntKind.i64.bits y).toNat = x.toNat &&& y.toNat := by
    rw [BitVec.toNat_and, show IntKind.i64.bits = 64 from rfl, ofInt_nat x hx hx2, ofInt_nat y hy hy2]
  rw [e]
  have : x.toNat &&& y.toNat ≤ x.toNat := Nat.and_le_left
  exact wrap64 (by omega) (by omega)
theorem bOr_nat (x y : Int) (hx : 0 ≤ x) (hx2 : x < 9223372036854775808) (hy : 0 ≤ y) (hy2 : y < 9223372036854775808) : bOr .i64 x y = ((x.toNat ||| y.toNat : Nat) : Int) := by
  unfold bOr
  have e : (BitVec.ofInt IntKind.i64.bits x ||| BitVec.ofInt IntKind.i64.bits y).toNat = x.toNat ||| y.toNat := by
    rw [BitVec.toNat_or, show IntKind.i64.bits = 64 from rfl, ofInt_nat x hx hx2, ofInt_nat y hy hy2]
  rw [e]
  have : x.toNat ||| y.toNat < 2 ^ 63 := Nat.or_lt_two_pow (by omega) (by omega)
  exact wrap64 (by omega) (by omega)
theorem bXor_nat (x y : Int) (hx : 0 ≤ x) (hx2 : x < 9223372036854775808) (hy : 0 ≤ y) (hy2 : y < 9223372036854775808) : bXor .i64 x y = ((x.toNat ^^^ y.toNat : Nat) : Int) := by
  unfold bXor
  have e : (BitVec.ofInt IntKind.i64.bits x ^^^ BitVec.ofInt IntKind.i64.bits y).toNat = x.toNat ^^^ y.toNat := by
    rw [BitVec.toNat_xor, show IntKind.i64.bits = 64 from rfl, ofInt_nat x hx hx2, ofInt_nat y hy hy2]
  rw [e]
  have : x.toNat ^^^ y.toNat < 2 ^ 63 := Nat.xor_lt_two_pow (by omega) (by omega)
  exact wrap64 (by omega) (by omega)
/-- What a set has that another one has not. -/
def ndiff (a b : Nat) : Nat := a ^^^ (a &&& b)
theorem bAndNot_nat (x y : Int) (hx : 0 ≤ x) (hx2 : x < 9223372036854775808) (hy : 0 ≤ y) (hy2 : y < 9223372036854775808) : bAndNot .i64 x y = ((ndiff x.toNat y.toNat : Nat) : Int) := by
  unfold bAndNot ndiff
  have e : (BitVec.ofInt IntKind.i64.bits x &&& ~~~(BitVec.ofInt IntKind.i64.bits y)) = BitVec.ofInt IntKind.i64.bits x ^^^ (BitVec.ofInt IntKind.i64.bits x &&& BitVec.ofInt IntKind.i64.bits y) := by
    apply BitVec.eq_of_getElem_eq
    intro i hi
    simp only [BitVec.getElem_and, BitVec.getElem_not, BitVec.getElem_xor]
    generalize (BitVec.ofInt IntKind.i64.bits x)[i] = a
    generalize (BitVec.ofInt IntKind.i64.bits y)[i] = b
    cases a <;> cases b <;> rfl
  have e2 : (BitVec.ofInt IntKind.i64.bits x ^^^ (BitVec.ofInt IntKind.i64.bits x &&& BitVec.ofInt IntKind.i64.bits y)).toNat = x.toNat ^^^ (x.toNat &&& y.toNat) := by
    rw [BitVec.toNat_xor, BitVec.toNat_and, show IntKind.i64.bits = 64 from rfl, ofInt_nat x hx hx2, ofInt_nat y hy hy2]
  rw [e, e2]
  have h1 : x.toNat &&& y.toNat ≤ x.toNat := Nat.and_le_left
  have : x.toNat ^^^ (x.toNat &&& y.toNat) < 2 ^ 63 := Nat.xor_lt_two_pow (by omega) (by omega)
  exact wrap64 (by omega) (by omega)
theorem bShl_nat (x y : Int) (hx : 0 ≤ x) (hx2 : x < 1048576) (hy : 0 ≤ y) (hy2 : y < 40) : bShl .i64 x y = ((x.toNat <<< y.toNat : Nat) : Int) := by
  unfold bShl
  obtain ⟨a, rfl⟩ : ∃ a : Nat, x = a := ⟨x.toNat, by omega⟩
  obtain ⟨b, rfl⟩ : ∃ b : Nat, y = b := ⟨y.toNat, by omega⟩
  have hb : min (b : Int).toNat IntKind.i64.bits = b := by show min _ 64 = b; simp; omega
  rw [hb]
  simp only [Int.toNat_natCast, Nat.shiftLeft_eq]
  have h3 : a * 2 ^ b ≤ 1048576 * 2 ^ 40 := Nat.mul_le_mul (by omega) (Nat.pow_le_pow_right (by omega) (by omega))
  have h4 : 1048576 * 2 ^ 40 < 9223372036854775808 := by decide
  have e : (a : Int) * 2 ^ b = ((a * 2 ^ b : Nat) : Int) := by push_cast; rfl
  rw [e]
  exact wrap64 (by omega) (by omega)
theorem bShr_nat (x y : Int) (hx : 0 ≤ x) (hy : 0 ≤ y) (hy2 : y < 64) : bShr .i64 x y = ((x.toNat >>> y.toNat : Nat) : Int) := by
  unfold bShr
  obtain ⟨a, rfl⟩ : ∃ a : Nat, x = a := ⟨x.toNat, by omega⟩
  obtain ⟨b, rfl⟩ : ∃ b : Nat, y = b := ⟨y.toNat, by omega⟩
  have hb : min (b : Int).toNat IntKind.i64.bits = b := by show min _ 64 = b; simp; omega
  rw [hb]
  simp only [Int.toNat_natCast, Nat.shiftRight_eq_div_pow]
  rw [Int.fdiv_eq_ediv_of_nonneg _ (by exact Int.le_of_lt (Int.pow_pos (by omega)))]
  push_cast; rfl

/-! What simp is to know of them (EngO leaves intBin and shiftV closed). -/
@[simp] theorem intBin_and (k : IntKind) (x y : Int) : intBin .and k x y = some (.int k (bAnd k x y)) := rfl
@[simp] theorem intBin_or (k : IntKind) (x y : Int) : intBin .or k x y = some (.int k (bOr k x y)) := rfl
@[simp] theorem intBin_xor (k : IntKind) (x y : Int) : intBin .xor k x y = some (.int k (bXor k x y)) := rfl
@[simp] theorem intBin_andNot (k : IntKind) (x y : Int) : intBin .andNot k x y = some (.int k (bAndNot k x y)) := rfl
@[simp] theorem shiftV_shl (k : IntKind) (x y : Int) : shiftV .shl k x y = if y < 0 then none else some (.int k (bShl k x y)) := rfl
@[simp] theorem shiftV_shr (k : IntKind) (x y : Int) : shiftV .shr k x y = if y < 0 then none else some (.int k (bShr k x y)) := rfl
attribute [simp] nilD lookupD updateD
/-! A zero value of many equal cells. -/
def zlist (n : Nat) (v : Value) : List Value := List.replicate n v
def zrow (n : Nat) (v : Value) : Array Value := (zlist n v).toArray
@[simp] theorem zrow_list (n : Nat) (v : Value) : (zrow n v).toList = zlist n v := rfl
@[simp] theorem zrow_size (n : Nat) (v : Value) : (zrow n v).size = n := by simp [zrow, zlist]
@[simp] theorem zlist_length (n : Nat) (v : Value) : (zlist n v).length = n := by simp [zlist]
theorem zrow_all {n m : Nat} {v : Value} (h : plainS v = true) : (zrow n v).all plainS 0 m = true := by
  rw [Array.all_iff_forall]
  intro i hi _
  have e : (zrow n v)[i] = v := by simp [zrow, zlist]
  rw [e]; exact h
@[simp] theorem zrow_bool (n m : Nat) (b : Bool) : (zrow n (.bool b)).all plainS 0 m = true := zrow_all rfl
@[simp] theorem zrow_int (n m : Nat) (k : IntKind) (b : Int) : (zrow n (.int k b)).all plainS 0 m = true := zrow_all rfl
end Go.Eng
