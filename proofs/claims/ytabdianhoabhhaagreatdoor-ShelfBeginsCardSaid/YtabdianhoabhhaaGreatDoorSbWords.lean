/- texts joined: Words. -/
import Derived.WalkKit
namespace Go.Proofs.YtabdianhoabhhaaGreatDoor
open Go
def n32 (a:BitVec 32):Int:=(a.toNat:Int)
def n8 (x:UInt8):Int:=(x.toNat:Int)
theorem AE0 (a:BitVec 32):0≤n32 a∧n32 a < 4294967296:=by unfold n32;have:=a.isLt;omega
theorem Ql (x:UInt8):0≤n8 x∧n8 x < 256:=by unfold n8;have:=x.toNat_lt;omega
theorem Xh {a b:UInt8} (h:n8 a=n8 b):a=b:=by apply UInt8.toNat_inj.1;unfold n8 at h;omega
theorem AEB (a b:UInt8):(n8 a == n8 b)=decide (a=b):=by
 rw[Bool.eq_iff_iff];simp;exact⟨Xh,fun h=>by rw[h]⟩
theorem ofInt32 (a:BitVec 32):BitVec.ofInt 32 (a.toNat:Int)=a:=by
 rw[BitVec.ofInt_natCast];simp
theorem PV (a:BitVec 32):IntKind.u32.wrap (a.toNat:Int)=(a.toNat:Int):=by
 have:=a.isLt
 rw[IntKind.wrap_u32'];omega
theorem LD (a b:BitVec 32):bits .xor .u32 (a.toNat:Int) (b.toNat:Int)=((a ^^^ b).toNat:Int):=by
 show IntKind.u32.wrap ((BitVec.ofInt 32 (a.toNat:Int) ^^^ BitVec.ofInt 32 (b.toNat:Int)).toNat:Int)=_
 rw[ofInt32,ofInt32,PV]
theorem OQ (a b:BitVec 32):bits .and .u32 (a.toNat:Int) (b.toNat:Int)=((a &&& b).toNat:Int):=by
 show IntKind.u32.wrap ((BitVec.ofInt 32 (a.toNat:Int) &&& BitVec.ofInt 32 (b.toNat:Int)).toNat:Int)=_
 rw[ofInt32,ofInt32,PV]
theorem pg (a b:BitVec 32):bits .or .u32 (a.toNat:Int) (b.toNat:Int)=((a ||| b).toNat:Int):=by
 show IntKind.u32.wrap ((BitVec.ofInt 32 (a.toNat:Int) ||| BitVec.ofInt 32 (b.toNat:Int)).toNat:Int)=_
 rw[ofInt32,ofInt32,PV]
theorem YA (a:BitVec 32):IntKind.u32.wrap (3988292384*(a.toNat:Int))=((3988292384#32*a).toNat:Int):=by
 rw[IntKind.wrap_u32',BitVec.toNat_mul];simp
theorem kD (c:BitVec 32):Op.unary .xor (.int .u32 (c.toNat:Int))=pure (.int .u32 ((~~~c).toNat:Int)):=by
 have h:bits .xor .u32 4294967295 (c.toNat:Int)=((~~~c).toNat:Int):=by
  have:=LD 4294967295#32 c
  rw[show ((4294967295#32:BitVec 32).toNat:Int)=4294967295 from rfl]at this
  rw[this,show (4294967295#32)=BitVec.allOnes 32 from rfl,BitVec.allOnes_xor]
 rw[unary_xor]
 have e:(if IntKind.u32.signed=true then (-1:Int) else IntKind.u32.max)=4294967295:=by decide
 rw[e,←h];rfl
theorem kE (a:BitVec 32) (yk:IntKind) (n:Nat) (hn:n≤32):Op.shift .shr .u32 (a.toNat:Int) yk (n:Int)=pure (.int .u32 ((a >>> n).toNat:Int)):=by
 rw[shift_shr_any _ _ _ _ (by omega)]
 have:min (n:Int).toNat IntKind.u32.bits=n:=by simp[IntKind.bits];omega
 rw[this,BitVec.toNat_ushiftRight,Nat.shiftRight_eq_div_pow];simp
theorem yL (a:BitVec 32) (yk:IntKind):Op.shift .shr .u32 (a.toNat:Int) yk 1=pure (.int .u32 ((a >>> 1).toNat:Int)):=kE a yk 1 (by omega)
theorem yM (a:BitVec 32) (yk:IntKind):Op.shift .shr .u32 (a.toNat:Int) yk 8=pure (.int .u32 ((a >>> 8).toNat:Int)):=kE a yk 8 (by omega)
theorem pq (x:UInt8):IntKind.u32.wrap (x.toNat:Int)=((x.toBitVec.setWidth 32).toNat:Int):=by
 have:=x.toNat_lt
 rw[IntKind.wrap_u32'];simp[UInt8.toNat_toBitVec];omega
theorem pz (c:BitVec 32):IntKind.u8.wrap (c.toNat:Int)=((UInt8.ofBitVec (c.setWidth 8)).toNat:Int):=by
 rw[IntKind.wrap_u8'];simp[←UInt8.toNat_toBitVec]
theorem ofInt8 (a:UInt8):BitVec.ofInt 8 (a.toNat:Int)=a.toBitVec:=by
 rw[BitVec.ofInt_natCast];apply BitVec.eq_of_toNat_eq;simp
theorem kF (a:UInt8):IntKind.u8.wrap (a.toNat:Int)=(a.toNat:Int):=by
 have:=a.toNat_lt
 rw[IntKind.wrap_u8'];omega
theorem yN (a b:UInt8):bits .xor .u8 (a.toNat:Int) (b.toNat:Int)=((a ^^^ b).toNat:Int):=by
 show IntKind.u8.wrap ((BitVec.ofInt 8 (a.toNat:Int) ^^^ BitVec.ofInt 8 (b.toNat:Int)).toNat:Int)=_
 rw[ofInt8,ofInt8,←kF];rfl
theorem ABh (a b:BitVec 32):bits .xor .u32 (n32 a) (n32 b)=n32 (a ^^^ b):=LD a b
theorem ABi (a b:BitVec 32):bits .and .u32 (n32 a) (n32 b)=n32 (a &&& b):=OQ a b
theorem AE1 (a b:BitVec 32):bits .or .u32 (n32 a) (n32 b)=n32 (a ||| b):=pg a b
theorem aN (a:BitVec 32):bits .and .u32 (n32 a) 1=n32 (a &&& 1#32):=OQ a 1#32
theorem YB (a:BitVec 32):bits .xor .u32 (n32 a) 3988292384=n32 (a ^^^ 3988292384#32):=LD a 3988292384#32
theorem YC (a:BitVec 32):IntKind.u32.wrap (3988292384*n32 a)=n32 (3988292384#32*a):=YA a
theorem ABj (c:BitVec 32):Op.unary .xor (.int .u32 (n32 c))=pure (.int .u32 (n32 (~~~c))):=kD c
theorem yO (a:BitVec 32) (yk:IntKind):Op.shift .shr .u32 (n32 a) yk 1=pure (.int .u32 (n32 (a >>> 1))):=yL a yk
theorem yP (a:BitVec 32) (yk:IntKind):Op.shift .shr .u32 (n32 a) yk 8=pure (.int .u32 (n32 (a >>> 8))):=yM a yk
theorem kG (x:UInt8):IntKind.u32.wrap (n8 x)=n32 (x.toBitVec.setWidth 32):=pq x
theorem kH (c:BitVec 32):IntKind.u8.wrap (n32 c)=n8 (UInt8.ofBitVec (c.setWidth 8)):=pz c
theorem AE2 (a b:UInt8):bits .xor .u8 (n8 a) (n8 b)=n8 (a ^^^ b):=yN a b
theorem yQ (a:BitVec 32):IntKind.u32.wrap (n32 a)=n32 a:=PV a
theorem ABk (a:UInt8):IntKind.u8.wrap (n8 a)=n8 a:=kF a
theorem AE3 (a:UInt8):IntKind.i64.wrap (n8 a)=n8 a:=IntWalk.i64_in _ (by have:=Ql a;omega)
theorem ABl (a:BitVec 32):IntKind.i64.wrap (n32 a)=n32 a:=IntWalk.i64_in _ (by have:=AE0 a;omega)
theorem yR (x:UInt8):n8 x % 4294967296=n32 (x.toBitVec.setWidth 32):=by rw[←IntKind.wrap_u32',kG]
theorem yS (c:BitVec 32):n32 c % 256=n8 (UInt8.ofBitVec (c.setWidth 8)):=by rw[←IntKind.wrap_u8',kH]
theorem yT (a:BitVec 32):n32 a / (2:Int)=n32 (a >>> 1):=by
 unfold n32;rw[BitVec.toNat_ushiftRight,Nat.shiftRight_eq_div_pow];omega
theorem gT (a:BitVec 32):n32 a / (256:Int)=n32 (a >>> 8):=by
 unfold n32;rw[BitVec.toNat_ushiftRight,Nat.shiftRight_eq_div_pow];omega
theorem gU:IntKind.u32.signed=false:=rfl
theorem ABm (c:BitVec 32):bits .xor .u32 IntKind.u32.max (n32 c)=n32 (~~~c):=by
 have:=kD c
 rw[unary_xor]at this
 have e:(if IntKind.u32.signed=true then (-1:Int) else IntKind.u32.max)=IntKind.u32.max:=by decide
 rw[e]at this
 have h2:=congrArg (fun s:Sem Value=>match s with | .pure (.int _ n)=>n | _=>0) this
 exact h2
attribute [go_sem] yR yS ABh ABi AE1 aN YB YC kG kH AE2 yQ ABk AE3 ABl
attribute [go_sem] ABj yO yP yT gT gU ABm
end Go.Proofs.YtabdianhoabhhaaGreatDoor
