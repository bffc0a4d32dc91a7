/- WholeImage, part 3 of 38: contracts and lemmas of its proof. Conditions: none. -/
import Derived.Test.YtaaihijkdhmcdaaGreatDoorW01
import Derived.Lib.SliceRun
set_option linter.unusedVariables false
set_option linter.unusedSimpArgs false
set_option maxRecDepth 100000
namespace Go.Proofs.YtaaihijkdhmcdaaGreatDoor
section
open Go Go.RowKit
theorem tmod8 (p:Int)(h:0≤p):p.tmod 8=p%8:=Int.tmod_eq_emod_of_nonneg h
theorem has_calls (a:Option Addr)(n c:Nat)(p:Int)(w:World)(hn:n≤9223372036854775807) :
  Ret Tryz.prog 109 #[.slice a n c,.int .i64 p] w fun v w'=>v=.bool (WM.hasB n p)∧w'=w:=by
 have hw:=IntWalk.i64_in ((n:Int)-8) (by omega);refine ret_of (args:=[_,_]) _ Tryz.func109 rfl Tryz.ntmps109 (by simp) ?_;by_cases h1:0≤p
 ·have h1':=tmod8 p h1;by_cases h2:p%8=0
  ·have h2':(p%8==0)=true:=by simp [h2]
   simp -implicitDefEqProofs [go_sem,h1,h1',h2',hw];refine body_tmp 4 rfl ?_;simp -implicitDefEqProofs [go_sem,WM.hasB,h1,h2]
  ·have h2':(p%8==0)=false:=by simp [h2]
   simp -implicitDefEqProofs [go_sem,h1,h1',h2',hw];refine body_tmp 4 rfl ?_;simp -implicitDefEqProofs [go_sem,WM.hasB,h1,h2]
 ·simp -implicitDefEqProofs [go_sem,h1];refine body_tmp 4 rfl ?_;simp -implicitDefEqProofs [go_sem,WM.hasB,h1]
theorem get_calls (a:Option Addr)(l:List (BitVec 8))(n c:Nat)(p:Int)(w:World)(hl:l.length=n)(hn:n≤9223372036854775807)(hin:SlAt .u8 w a l) :
  Ret Tryz.prog 89 #[.slice a n c,.int .i64 p] w fun v w'=>v=.tuple #[.int .u64 (uv (if WM.hasB n p then WM.getM l p.toNat else 0#64)),.bool (WM.hasB n p)]∧w'=w:=by
 subst hl;refine ret_of (args:=[_,_]) _ Tryz.func89 rfl Tryz.ntmps89 (by simp) ?_;simp -implicitDefEqProofs [go_sem];refine callE_of (has_calls a l.length c p w hn) ?_;rintro v w1 ⟨rfl,rfl⟩;cases hh:WM.hasB l.length p
 ·simp -implicitDefEqProofs [go_sem];refine body_tmp2 4 5 rfl ?_;simp -implicitDefEqProofs [go_sem];rfl
 ·obtain ⟨q,rfl,hq⟩:=WM.hasB_iff.1 hh;obtain ⟨x,hx⟩:∃ x,x=8*q:=⟨_,rfl⟩;rw [← hx] at hq ⊢;obtain ⟨f,hf⟩:∃ f:Nat→BitVec 8,f=fun i=>l.getD (x+i) 0#8:=⟨_,rfl⟩
  have hgm:WM.getM l x=WM.wd f 8:=by rw [hf];rfl
  simp -implicitDefEqProofs [go_sem];refine wpE_loop (fun e' w'=>w'=w1∧∃ k:Nat,k≤8∧e' 0=.slice a l.length c∧e' 1=.int .i64 x∧e' 6=.int .u64 (uv (WM.wd f k))∧e' 12=.int .i64 k) (fun e' _=>8-(intOf (e' 12)).toNat) ?_ ?_
  ·refine ⟨rfl,0,by omega,?_⟩;simp -implicitDefEqProofs [go_sem,WM.wd];simp [uv]
  ·rintro e' w' ⟨rfl,k,hk,h0,h1,h6,h12⟩;by_cases hlt:k<8
   ·obtain ⟨b,o,rfl,g⟩:=hin.cellD (i:=x+k) (by omega);have c1:(k:Int)<8:=by omega
    have hw:=IntWalk.i64_in ((k:Int)+1) (by omega);have hw1:=IntWalk.i64_in ((x:Int)+k) (by omega);have hw2:=IntWalk.i64_in (8*(k:Int)) (by omega);have i0:(0:Int)≤x+k:=by omega
    have i1:(x:Int)+k<l.length:=by omega
    have i2:((x:Int)+k).toNat=x+k:=by omega
    have i3:(8*(k:Int)).toNat=8*k:=by omega
    have i4:(0:Int)≤8*k:=by omega
    have hst:WM.wd f (k+1)=WM.wd f k ||| (f k).setWidth 64 <<< (8*k):=rfl
    have hfk:l.getD (x+k) 0#8=f k:=by rw [hf]
    rw [hfk] at g;simp -implicitDefEqProofs [go_sem,h0,h1,h6,h12,c1,hw1,hw2,i0,i1,i2,i3,i4,g];refine goE_round ⟨rfl,k+1,by omega,?_⟩ ?_
    ·simp -implicitDefEqProofs [go_sem,h0,h1,hw,hst]
    ·simp -implicitDefEqProofs [go_sem,intOf,h12,hw];omega
   ·have hk':k=8:=by omega
    subst hk';simp -implicitDefEqProofs [go_sem,h0,h1,h6,h12];refine body_tmp2 4 5 rfl ?_;simp -implicitDefEqProofs [go_sem,hgm]
theorem info_u8:(Tryz.prog.info? 5).map (fun i=>(i.zero,i.size,i.bytes))=some (some (.int .u8 0),1,1):=by kernel_rfl
theorem owns_blk {n:Nat}{k:IntKind}{w:World}{a:Option Addr}{l:List (BitVec n)}{base m cap:Nat}{e:TypeId}(hl:l.length=m)(hm:0<m)(h:w.ownsRow base e 1 (.slice a m cap) m (cellsK k l)) :
  ∃ g C,a=some ⟨g,0,none⟩∧base≤g∧Blk w g C e∧m≤cap∧cap≤9223372036854775807∧∀ i,(hi:i<m)→C[i]?=some (.int k (uv (l.getD i 0#n))):=by
 obtain ⟨_,⟨hv,h0⟩|⟨g,cap2,cur,hv,hg,hblk,hcap,hmx,hsz,htake⟩⟩:=h
 ·omega
 ·simp only [Value.slice.injEq] at hv;obtain ⟨rfl,_,rfl⟩:=hv;have hblk:Blk w g cur e:=hblk;refine ⟨g,cur,rfl,hg,hblk,by omega,by unfold maxLen at hmx;omega,fun i hi=>?_⟩;rw [Nat.mul_one] at htake;have h1:=congrArg (fun z:List Value=>z[i]?) htake;simp only [List.getElem?_take,show i<m by omega,if_true,Array.getElem?_toList] at h1;rw [h1];simp [cellsK,show i<l.length by omega]
def OwnSl {n:Nat}(k:IntKind)(base:Nat)(w:World)(a:Option Addr)(l:List (BitVec n))(e:TypeId):Prop :=
 l=[]∨∃ g C,a=some ⟨g,0,none⟩∧base≤g∧Blk w g C e∧∀ i,i<l.length→C[i]?=some (.int k (uv (l.getD i 0#n)))
set_option maxRecDepth 10000 in
theorem clone_calls (a:Option Addr)(l:List (BitVec 8))(n c:Nat)(w0:World)(hl:l.length=n)(hm:n≤140737488355328)(hin:SlIn .u8 w0 a l c) :
  Ret Tryz.prog 108 #[.slice a n c] w0 fun v w'=>∃ a' c',v=.slice a' n c'∧SlIn .u8 w' a' l c'∧OwnSl .u8 w0.heap.size w' a' l 5∧Below w0.heap.size w0 w':=by
 subst hl;have nilEq:=fun w a n c=>Lib.run_eql_slice_nil (P:=Tryz.prog) w 36 5 a n c 0 0 Tryz.underlying36
 refine ret_of (args:=[_]) _ Tryz.func108 rfl Tryz.ntmps108 (by simp) ?_;have bel0:=Below.refl w0.heap.size w0;cases a with
 | none =>
  have h0:l=[]:=by
   rcases hin.at_ with h|⟨b,o,h,_⟩
   ·exact h
   ·cases h
  subst h0;have hc:=hin.nil rfl;subst hc;simp -implicitDefEqProofs [go_sem,nilEq];refine body_tmp 2 rfl ?_;simp -implicitDefEqProofs [go_sem];exact ⟨none,0,⟨rfl,rfl⟩,hin,.inl rfl,bel0⟩
 | some x =>
  simp -implicitDefEqProofs [go_sem,nilEq];have hlit:=World.ownsRow_lit (base:=w0.heap.size) (e:=5) (size:=1) w0 #[] 0 (Nat.le_refl _) (by decide) rfl;generalize hw1:World.alloc w0 _=w1 at *;have sz1:w1.heap.size=w0.heap.size+1:=by rw [← hw1];simp
  have b1:Below w0.heap.size w0 w1:=by rw [← hw1];exact bel0.alloc (Nat.le_refl _) _
  have hin1:=hin.next b1
  obtain ⟨a2,c2,w2,hr2,hown,hgr⟩:=run_append1 (P:=Tryz.prog) w0.heap.size (t:=36) (bytes:=1) (z:=.int .u8 0) 36 Tryz.underlying36 info_u8 rfl hlit (a2:=some x) (c2:=c) (m:=l.length) (news:=cellsK .u8 l) (cellsK_length) hin1.at_.src (by simp) (fun u hu=>cellsK_one u hu) (by omega) (by omega) (by omega);rw [Nat.zero_add] at hr2;rw [Nat.zero_add] at hown;have b2:Below w0.heap.size w0 w2:=b1.grown hgr (by omega) (fun j hj=>by simp [Value.ownBlock] at hj;omega)
  simp -implicitDefEqProofs [go_sem,hr2];refine body_tmp 2 rfl ?_;simp -implicitDefEqProofs [go_sem];refine ⟨a2,c2,⟨rfl,rfl⟩,owns_slIn (e:=5) rfl (by simpa using hown),?_,b2⟩;by_cases h0:l=[]
  ·exact .inl h0
  ·have hpos:0<l.length:=List.length_pos_iff.2 h0;obtain ⟨g,C,h1,h2,h3,_,_,h4⟩:=owns_blk (l:=l) rfl hpos (by simpa using hown);exact .inr ⟨g,C,h1,h2,h3,h4⟩
def putB (l:List (BitVec 8))(p:Int)(n:BitVec 64):List (BitVec 8):=if WM.hasB l.length p then WM.putM l p.toNat n else l
theorem put_calls (a:Option Addr)(l:List (BitVec 8))(n c:Nat)(p:Int)(x:BitVec 64)(w0:World)(hl:l.length=n)(hm:n≤140737488355328)(hin:SlIn .u8 w0 a l c) :
  Ret Tryz.prog 72 #[.slice a n c,.int .i64 p,.int .u64 (uv x)] w0 fun v w'=>∃ a' c',v=.tuple #[.slice a' n c',.bool (WM.hasB n p)]∧SlIn .u8 w' a' (putB l p x) c'∧Below w0.heap.size w0 w':=by
 subst hl;refine ret_of (args:=[_,_,_]) _ Tryz.func72 rfl Tryz.ntmps72 (by simp) ?_;have bel0:=Below.refl w0.heap.size w0;simp -implicitDefEqProofs [go_sem];refine callE_of (clone_calls a l l.length c w0 rfl hm hin) ?_;rintro v w1 ⟨a1,c1,rfl,hin1,hown,b1⟩;have bel1:=btr bel0 b1;replace hin:=hin.next b1
 simp -implicitDefEqProofs [go_sem];refine callE_of (has_calls a l.length c p w1 (by omega)) ?_;rintro v w2 ⟨rfl,rfl⟩;cases hh:WM.hasB l.length p
 ·simp -implicitDefEqProofs [go_sem];refine body_tmp2 6 7 rfl ?_;simp -implicitDefEqProofs [go_sem,putB,hh];exact ⟨a1,c1,⟨rfl,rfl⟩,hin1,b1⟩
 ·obtain ⟨q,rfl,hq⟩:=WM.hasB_iff.1 hh;obtain ⟨y,hy⟩:∃ y,y=8*q:=⟨_,rfl⟩;rw [← hy] at hq hh ⊢
  rcases hown with h0|⟨g,C,rfl,hg,hB,hC⟩
  ·rw [h0] at hq;simp at hq
  have hput:putB l y x=WM.putK l y x 8:=by unfold putB;rw [if_pos hh];rfl
  rw [hput];simp -implicitDefEqProofs [go_sem];refine wpE_loop (fun e' w'=>∃ (k:Nat) (C:Array Value),k≤8∧e' 1=.int .i64 y∧e' 2=.int .u64 (uv x)∧e' 8=.slice (some ⟨g,0,none⟩) l.length c1∧e' 17=.int .i64 k∧Blk w' g C 5 ∧
   (∀ i,i<l.length→C[i]?=some (.int .u8 (uv ((WM.putK l y x k).getD i 0#8))))∧Below w0.heap.size w0 w') (fun e' _=>8-(intOf (e' 17)).toNat) ?_ ?_
  ·refine ⟨0,C,by omega,?_⟩;simp -implicitDefEqProofs [go_sem];exact ⟨hB,fun i hi=>by have:=hC i hi;simpa [WM.putK] using this,b1⟩
  ·rintro e' w' ⟨k,C,hk,h1,h2,h8,h17,hBk,hCk,bel⟩;by_cases hlt:k<8
   ·have c1:(k:Int)<8:=by omega
    have hw:=IntWalk.i64_in ((k:Int)+1) (by omega);have hw1:=IntWalk.i64_in ((y:Int)+k) (by omega);have hw2:=IntWalk.i64_in (8*(k:Int)) (by omega);have i0:(0:Int)≤y+k:=by omega
    have i1:(y:Int)+k<l.length:=by omega
    have i2:((y:Int)+k).toNat=y+k:=by omega
    have i3:(8*(k:Int)).toNat=8*k:=by omega
    have i4:(0:Int)≤8*k:=by omega
    have g1:=hBk.cell (y+k);rw [hCk _ (by omega)] at g1;have f1:=hBk.thaw (y+k);have hlen:=WM.putK_length l y x k;have hst:WM.putK l y x (k+1)=(WM.putK l y x k).set (y+k) (WM.byteOf x k):=rfl;generalize WM.putK l y x k=L at *;have hs:=hBk.set (y+k) (.int .u8 (uv (WM.byteOf x k)));simp -implicitDefEqProofs [go_sem,h1,h2,h8,h17,c1,hw1,hw2,i0,i1,i2,i3,i4,g1,f1];refine goE_round ⟨k+1,C.setIfInBounds (y+k) (.int .u8 (uv (WM.byteOf x k))),by omega,?_⟩ ?_
    ·simp -implicitDefEqProofs [go_sem,h1,h2,h8,hw];refine ⟨hs,fun i hi=>?_,bel.setCell hg _⟩;have hCs:y+k<C.size:=by
      have:=hCk (y+k) (by omega)
      rcases Nat.lt_or_ge (y+k) C.size with h|h
      ·exact h
      ·rw [Array.getElem?_eq_none h] at this;cases this
     rw [Array.getElem?_setIfInBounds,hst];by_cases h:y+k=i
     ·subst h;have hyk:y+k<L.length:=by omega
      rw [if_pos rfl,if_pos hCs];simp [hyk]
     ·rw [if_neg h,hCk i hi];simp [h]
    ·simp -implicitDefEqProofs [go_sem,intOf,h17,hw];omega
   ·have hk':k=8:=by omega
    subst hk';simp -implicitDefEqProofs [go_sem,h1,h2,h8,h17];refine body_tmp2 6 7 rfl ?_;simp -implicitDefEqProofs [go_sem];refine ⟨some ⟨g,0,none⟩,c1,⟨rfl,rfl⟩,⟨slAt_blk hBk fun i hi=>?_,?_,hin1.max,fun h=>by cases h⟩,bel⟩
    ·have hi':i<l.length:=by rw [WM.putK_length] at hi;exact hi
     rw [hCk i hi'];simp [List.getD,hi]
    ·rw [WM.putK_length];exact hin1.le
end
end Go.Proofs.YtaaihijkdhmcdaaGreatDoor
