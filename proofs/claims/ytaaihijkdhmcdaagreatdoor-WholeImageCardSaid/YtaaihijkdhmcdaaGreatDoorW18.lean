/- WholeImage, part 19 of 38: contracts and lemmas of its proof. Conditions: none. -/
import Derived.Test.YtaaihijkdhmcdaaGreatDoorW17
import Derived.Test.YtaaihijkdhmcdaaGreatDoorW07
import Derived.Test.YtaaihijkdhmcdaaGreatDoorW02
import Derived.Lib.Overlaps
import Derived.Lib.AppendZerosOnto
import Derived.Lib.SliceRun
import Derived.Laws.Externs
import Derived.Laws.CopyRow
set_option linter.unusedVariables false
set_option linter.unusedSimpArgs false
set_option maxRecDepth 100000
namespace Go.Proofs.YtaaihijkdhmcdaaGreatDoor
section
open Go Go.RowKit
theorem ownsK_row {n:Nat}{k:IntKind}{w:World}{base m cap:Nat}{e:TypeId}{a:Option Addr}{l:List (BitVec n)}(hm:0<m)(h:w.ownsRow base e 1 (.slice a m cap) m (cellsK k l)) :
  ∃ g C,a=some ⟨g,0,none⟩∧base≤g∧Blk w g C e∧m≤cap∧cap≤9223372036854775807∧C.size=cap∧C.toList.take m=cellsK k l:=by
 obtain ⟨_,⟨hv,h0⟩|⟨g,cap2,cur,hv,hg,hblk,hcap,hmx,hsz,htake⟩⟩:=h
 ·omega
 ·simp only [Value.slice.injEq] at hv;obtain ⟨rfl,_,rfl⟩:=hv;rw [Nat.mul_one] at htake hsz;exact ⟨g,cur,rfl,hg,hblk,hcap,by unfold maxLen at hmx;omega,hsz,htake⟩
theorem rowK_owns {n:Nat}{k:IntKind}{w:World}{base m cap:Nat}{e:TypeId}{l:List (BitVec n)}{g:Nat}{C:Array Value}(hl:l.length=m)(hg:base≤g)(hB:Blk w g C e)(hm:m≤cap)(hc:cap≤9223372036854775807)(hs:C.size=cap)(ht:C.toList.take m=cellsK k l) :
  w.ownsRow base e 1 (.slice (some ⟨g,0,none⟩) m cap) m (cellsK k l) :=
 ⟨by rw [cellsK_length,hl,Nat.mul_one],.inr ⟨g,cap,C,rfl,hg,hB,hm,by unfold maxLen;omega,by rw [hs,Nat.mul_one],by rw [Nat.mul_one];exact ht⟩⟩
theorem ins_row {α:Type}{C X:List α}{n i:Nat}{x:α}(hX:C.take n=X)(hn:n+1≤C.length)(hi:i≤n) :
  (((C.take (i+1)++X.drop i++C.drop (i+1+(X.drop i).length)).take i++[x]++(C.take (i+1)++X.drop i++C.drop (i+1+(X.drop i).length)).drop (i+1)).take (n+1))=X.take i++x::X.drop i:=by
 have hXl:X.length=n:=by rw [← hX,List.length_take];omega
 have hd:(X.drop i).length=n-i:=by rw [List.length_drop,hXl]
 have h1:(C.take (i+1)).length=i+1:=by rw [List.length_take];omega
 have e1:(C.take (i+1)++X.drop i++C.drop (i+1+(X.drop i).length)).take i=X.take i:=by
  rw [List.append_assoc,List.take_append_of_le_length (by omega),List.take_take,Nat.min_eq_left (by omega),← hX,List.take_take,Nat.min_eq_left hi]
 have e2:(C.take (i+1)++X.drop i++C.drop (i+1+(X.drop i).length)).drop (i+1)=X.drop i++C.drop (i+1+(X.drop i).length):=by
  rw [List.append_assoc,List.drop_append_of_le_length (by omega),List.drop_of_length_le (by omega),List.nil_append]
 rw [e1,e2];have h2:(X.take i).length=i:=by rw [List.length_take];omega
 have e3:X.take i++[x]++(X.drop i++C.drop (i+1+(X.drop i).length))=(X.take i++x::X.drop i)++C.drop (i+1+(X.drop i).length):=by simp
 rw [e3,List.take_append_of_le_length (by simp;omega),List.take_of_length_le (by simp;omega)]
section
set_option maxHeartbeats 1000000
theorem idxB_calls (a:Option Addr)(l:List (BitVec 8))(c:Nat)(x:BitVec 8)(w:World)(hin:SlIn .u8 w a l c) :
  Ret Tryz.prog 186 #[.slice a l.length c,.int .u8 (uv x)] w fun v w'=>v=.int .i64 (if x∈l then ((l.idxOf x:Nat):Int) else -1)∧w'=w:=by
 have hmax:=hin.max;have hle:=hin.le;refine ret_of (args:=[_,_]) _ Tryz.func186 rfl Tryz.ntmps186 (by simp) ?_;simp -implicitDefEqProofs [go_sem];refine wpE_loop (fun e' w'=>w'=w∧∃ k:Nat,k≤l.length∧(∀ j,j<k→l[j]?≠some x)∧e' 0=.slice a l.length c∧e' 1=.int .u8 (uv x)∧e' 7=.int .i64 l.length∧e' 8=.int .i64 k) (fun e' _=>l.length-(intOf (e' 8)).toNat) ?_ ?_
 ·refine ⟨rfl,0,Nat.zero_le _,fun j hj=>absurd hj (Nat.not_lt_zero _),?_⟩;simp -implicitDefEqProofs [go_sem]
 ·rintro e' w' ⟨rfl,k,hk,hno,q0,q1,q7,q8⟩;by_cases hlt:k<l.length
  ·have hlt':(k:Int)<l.length:=by omega
   have hw:=IntWalk.i64_in ((k:Int)+1) (by omega);obtain ⟨b,o,rfl,g⟩:=hin.at_.cell hlt;by_cases e:x=l[k]
   ·have e':(x==l[k])=true:=by rw [beq_iff_eq];exact e
    have hmem:x∈l:=e▸List.getElem_mem hlt;have hidx:l.idxOf x=k:=by
     have h1:=List.idxOf_lt_length_of_mem hmem;have h2:l[l.idxOf x]=x:=List.getElem_idxOf h1
     rcases Nat.lt_trichotomy (l.idxOf x) k with h|h|h
     ·exact absurd (by rw [List.getElem?_eq_getElem h1,h2]) (hno _ h)
     ·exact h
     ·exact absurd e.symm (by have:=List.not_of_lt_findIdx (show k<l.findIdx (· == x) from h);simpa using this)
    simp -implicitDefEqProofs [go_sem,q0,q1,q7,q8,hlt,hlt',g,e'];refine body_tmp 4 rfl ?_;simp -implicitDefEqProofs [go_sem,hmem,hidx]
   ·have e':(x==l[k])=false:=by rw [beq_eq_false_iff_ne];exact e
    simp -implicitDefEqProofs [go_sem,q0,q1,q7,q8,hlt,hlt',g,e',hw];refine goE_round ⟨rfl,k+1,by omega,fun j hj=>?_,?_⟩ ?_
    ·by_cases ej:j=k
     ·subst ej;rw [List.getElem?_eq_getElem hlt];intro h;exact e (Option.some.inj h).symm
     ·exact hno j (by omega)
    ·simp -implicitDefEqProofs [go_sem,q0,q1,q7]
    ·simp -implicitDefEqProofs [go_sem,intOf,q8,hw];omega
  ·have hn:¬ (k:Int)<l.length:=by omega
   have hmem:¬ x∈l:=fun h=>by
    obtain ⟨j,hj,e⟩:=List.getElem_of_mem h;exact hno j (by omega) (by rw [List.getElem?_eq_getElem hj,e])
   simp -implicitDefEqProofs [go_sem,q0,q1,q7,q8,hlt,hn];refine body_tmp 4 rfl ?_;simp -implicitDefEqProofs [go_sem,hmem]
theorem infoB:(Tryz.prog.info? 5).map (fun i=>(i.zero,i.size,i.bytes))=some (some (.int .u8 0),1,1):=by kernel_rfl
theorem cloneB_calls (a:Option Addr)(l:List (BitVec 8))(c:Nat)(w0:World)(hl:l.length≤1000000)(hin:SlIn .u8 w0 a l c) :
  Ret Tryz.prog 108 #[.slice a l.length c] w0 fun v w'=>∃ a' c',v=.slice a' l.length c'∧w'.ownsRow w0.heap.size 5 1 (.slice a' l.length c') l.length (cellsK .u8 l)∧Below w0.heap.size w0 w':=by
 have nilEq:=fun w a n c=>Lib.run_eql_slice_nil (P:=Tryz.prog) w 36 5 a n c 0 0 Tryz.underlying36
 have bel0:=Below.refl w0.heap.size w0;refine ret_of (args:=[_]) _ Tryz.func108 rfl Tryz.ntmps108 (by simp) ?_;cases a with
 | none =>
  have h0:l=[]:=by
   rcases hin.at_ with h|⟨b,o,h,_⟩
   ·exact h
   ·cases h
  subst h0;have hc:=hin.nil rfl;subst hc;simp -implicitDefEqProofs [go_sem,nilEq];refine body_tmp 2 rfl ?_;simp -implicitDefEqProofs [go_sem];exact ⟨none,0,⟨rfl,rfl⟩,World.ownsRow_nil _ _ _ _,bel0⟩
 | some x =>
  have hlit:=World.ownsRow_lit (base:=w0.heap.size) (e:=5) (size:=1) w0 #[] 0 (Nat.le_refl _) (by decide) rfl;have b1:Below w0.heap.size w0 (w0.alloc (.cells #[] 5)):=bel0.alloc (Nat.le_refl _) _;obtain ⟨a2,c2,w2,hr,hown,hgr⟩:=run_append1 (P:=Tryz.prog) w0.heap.size (t:=36) (bytes:=1) (z:=.int .u8 0) 36 Tryz.underlying36 infoB rfl hlit (a2:=some x) (c2:=c) (m:=l.length) (news:=cellsK .u8 l) (cellsK_length)
   ((hin.at_.next b1).src) (fun h=>by cases h) cellsK_one (by omega) (by omega) (by simp)
  rw [Nat.zero_add,List.nil_append] at hown;rw [Nat.zero_add] at hr;simp -implicitDefEqProofs [go_sem,nilEq,hr];refine body_tmp 2 rfl ?_;simp -implicitDefEqProofs [go_sem];exact ⟨a2,c2,⟨rfl,rfl⟩,hown,b1.grown hgr (by simp) (fun j hj=>by simp [Value.ownBlock] at hj;omega)⟩
theorem insB_calls (a:Option Addr)(l:List (BitVec 8))(n c base i vb:Nat)(x:BitVec 8)(w0:World)(hl:l.length=n)(hn:n≤1000000)(hi:i≤n)(hbase:base≤w0.heap.size)
  (hown:w0.ownsRow base 5 1 (.slice a n c) n (cellsK .u8 l)) (hv:Blk w0 vb #[.int .u8 (uv x)] 5) (hne:∀ y,a=some y→y.block≠vb) :
  Ret Tryz.prog 196 #[.slice a n c,.int .i64 (i:Int),.slice (some ⟨vb,0,none⟩) 1 1] w0 fun v w'=>∃ a' c',v=.slice a' (n+1) c'∧w'.ownsRow base 5 1 (.slice a' (n+1) c') (n+1) (cellsK .u8 (l.take i++x::l.drop i))∧Below base w0 w'∧Turn w0 (BlkOf a) w' (BlkOf a'):=by
 have bel0:=Below.refl base w0;have hsl:=owns_slIn hl hown;have hcap:=hsl.max;have hnc:n≤c:=by have:=hsl.le;omega
 have hT:=Tryz.underlying36;have i1:(i:Int)≤n:=by omega
 have i2:(n:Int)≤c:=by omega
 have i3:(i:Int)≤c:=by omega
 have hvs:SrcAt w0 (some ⟨vb,0,none⟩) [Value.int .u8 (uv x)]:=.inr ⟨_,rfl,fun j u hu=>by rw [Addr.add_lit,Nat.zero_add,hv.cell];simpa using hu⟩;have k1:=IntWalk.i64_in ((n:Int)+1) (by omega);have k2:=IntWalk.i64_in ((i:Int)+1) (by omega);have k3:=IntWalk.i64_in ((n:Int)+1-i) (by omega);by_cases hin:i=n
 ·subst hin;obtain ⟨ti,tz,hti,htz,hts,htb,htc⟩:=EInfo.get (P:=Tryz.prog) (e:=5) (size:=1) (bytes:=1) (by unfold EInfo;kernel_rfl);obtain ⟨g2,c2,w2,hr,hown2,hgr,hwh⟩:=run_append_where (P:=Tryz.prog) (w:=w0) base (t:=36) (ty:=36) hT hti htz hts htb htc (by decide) hown (m:=1) (c:=1) ⟨vb,0,none⟩ (news:=[Value.int .u8 (uv x)]) rfl
   (fun j u hu=>by rw [Addr.add_lit,Nat.zero_add,hv.cell];simpa using hu) (by simp [Value.oneCell']) (by decide) (by omega) (by omega) hbase
  have hob:∀ k,Value.ownBlock (.slice a i c)=some k→BlkOf a k:=fun k hk=>by
   cases a with
   | none=>simp [Value.ownBlock] at hk
   | some y=>simp [Value.ownBlock] at hk;exact ⟨y,rfl,hk⟩
  have hturn:Turn w0 (BlkOf a) w2 (BlkOf (some ⟨g2,0,none⟩)):=⟨(mod_of_grown hgr).mono (fun k hk _=>hob k hk),fun k hk=>by
   obtain ⟨y,e,rfl⟩:=hk;obtain rfl:=Option.some.inj e
   rcases hwh with h|h
   ·exact .inl (hob _ h)
   ·exact .inr (by show w0.heap.size≤g2;omega)⟩
  refine ret_of (args:=[_,_,_]) _ Tryz.func196 rfl Tryz.ntmps196 (by simp) ?_;simp -implicitDefEqProofs [go_sem,i1,i2,i3,hr];refine body_tmp 6 rfl ?_;simp -implicitDefEqProofs [go_sem];refine ⟨some ⟨g2,0,none⟩,c2,⟨rfl,rfl⟩,?_,bel0.grown hgr hbase (fun j hj=>(hown.lt j hj).1),hturn⟩;have e:cellsK .u8 (l.take i++x::l.drop i)=cellsK .u8 l++[Value.int .u8 (uv x)]:=by
   rw [List.take_of_length_le (by omega),List.drop_of_length_le (by omega),cellsK_append];rfl
  rw [e];exact hown2
 ·obtain ⟨g,C,rfl,hg,hB,-,hcm,hCs,hCt⟩:=ownsK_row (by omega) hown;have hgv:g≠vb:=hne _ rfl;have hne1:((i:Int)==n)=false:=by rw [beq_eq_false_iff_ne];omega
  have hCl:C.toList.length=c:=by rw [Array.length_toList,hCs]
  have hXl:(cellsK .u8 l).length=n:=by rw [cellsK_length,hl]
  have hsize:(Tryz.prog.info? 5).map (·.size)=some 1:=by kernel_rfl
  have hdl:((cellsK .u8 l).drop i).length=n-i:=by rw [List.length_drop,hXl]
  have hX:∀ j v,(cellsK .u8 l)[j]?=some v→C[j]?=some v:=fun j v h=>by
   rw [← hCt,List.getElem?_take] at h;split at h
   ·rwa [Array.getElem?_toList] at h
   ·cases h
  have hcells:cellsK .u8 (l.take i++x::l.drop i)=(cellsK .u8 l).take i++Value.int .u8 (uv x)::(cellsK .u8 l).drop i:=by simp [cellsK]
  by_cases hroom:n+1≤c
  ·have hroom':¬ ((c:Int)<(n:Int)+1):=by omega
   have j1:(n:Int)+1≤c:=by omega
   have j2:(i:Int)+1≤n+1:=by omega
   have j3:(i:Int)≤n+1:=by omega
   have j4:¬ (c=i+1):=by omega
   have j5:¬ (c=i):=by omega
   have j6:((i:Int)+1).toNat=i+1:=by omega
   have j7:((n:Int)+1).toNat=n+1:=by omega
   have j8:(0:Int)≤(i:Int)+1:=by omega
   have j9:(0:Int)≤(n:Int)+1:=by omega
   have hsa:w0.shape? vb=some (5,1):=by unfold World.shape?;rw [show w0.heap[vb]?=_ from hv];rfl
   have hsb:w0.shape? g=some (5,C.size):=by unfold World.shape?;rw [show w0.heap[g]?=_ from hB]
   have hov:∀ lb cb,(callFunc 213 #[.slice (some ⟨vb,0,none⟩) 1 1,.slice (some ⟨g,i+1,none⟩) lb cb]).run Tryz.prog w0=.ok (.value (.bool false)) w0:=fun lb cb=>by
    rw [run_callFunc_extern Tryz.func213 (by kernel_rfl) (by kernel_rfl) (by kernel_rfl) (e:=Extern.SlicesOverlaps.overlaps #[36,36] #[4]) (by kernel_rfl),
     Lib.run_overlaps_apart w0 36 4 5 hT 1 (fun w=>by rfl) ⟨vb,0,none⟩ ⟨g,i+1,none⟩ 1 1 lb cb (Ne.symm hgv) 5 5 1 C.size hsa hsb (by omega) (hv.thaw 0) (hv.thaw 1)]
    rfl
   obtain ⟨C1,hC1⟩:∃ C1:Array Value,C1=(C.toList.take (i+1)++(cellsK .u8 l).drop i++C.toList.drop (i+1+((cellsK .u8 l).drop i).length)).toArray:=⟨_,rfl⟩;have hcp1:∀ (w:World),Blk w g C 5→∀ ty d1 d2,(copyB #[36,36] ty #[.slice (some ⟨g,i+1,none⟩) (n-i) d1,.slice (some ⟨g,i,none⟩) (n+1-i) d2]).run Tryz.prog w=.ok (goInt ((n-i:Nat):Int)) (w.setRow g C1):=fun w hw ty d1 d2=>by
    have:=run_copy_row Tryz.prog w 36 36 ty 5 g (i+1) (n-i) d1 ⟨g,i,none⟩ (n+1-i) d2 C 5 ((cellsK .u8 l).drop i) hT hsize hw (by rw [hdl];simp only [Nat.min_def];split<;>omega)
     (fun j v hj=>by rw [Addr.add_lit,hw.cell];exact hX _ _ (by rwa [List.getElem?_drop] at hj)) (by rw [hdl];omega) (fun v hv=>cellsK_one v (List.mem_of_mem_drop hv))
    rw [hC1];rw [hdl] at this ⊢;exact this
   have hC1s:C1.size=c:=by rw [hC1];simp [hCl,hXl];omega
   obtain ⟨C2,hC2⟩:∃ C2:Array Value,C2=(C1.toList.take i++[Value.int .u8 (uv x)]++C1.toList.drop (i+1)).toArray:=⟨_,rfl⟩;have hcp2:∀ (w:World),Blk w g C1 5→Blk w vb #[.int .u8 (uv x)] 5→∀ ty d1,(copyB #[36,36] ty #[.slice (some ⟨g,i,none⟩) (n+1-i) d1,.slice (some ⟨vb,0,none⟩) 1 1]).run Tryz.prog w=.ok (goInt 1) (w.setRow g C2):=fun w hw hwv ty d1=>by
    have:=run_copy_row Tryz.prog w 36 36 ty 5 g i (n+1-i) d1 ⟨vb,0,none⟩ 1 1 C1 5 [Value.int .u8 (uv x)] hT hsize hw (by simp only [Nat.min_def,List.length_singleton];split<;>omega)
     (fun j v hj=>by rw [Addr.add_lit,Nat.zero_add,hwv.cell];simpa using hj) (by simp only [List.length_singleton];omega) (by simp [Value.oneCell'])
    rw [hC2];exact this
   have hfin:C2.toList.take (n+1)=cellsK .u8 (l.take i++x::l.drop i):=by
    rw [hC2,hC1,hcells];exact ins_row hCt (by omega) hi
   refine ret_of (args:=[_,_,_]) _ Tryz.func196 rfl Tryz.ntmps196 (by simp) ?_;simp -implicitDefEqProofs [go_sem,i1,i2,i3,hne1,hroom',k1,k2,j1,j2,j3,j4,j5,j6,j7,j8,j9,hov];refine drawE_tail 8 mixed (by decide +kernel) (by simp only [wt];rfl) (by simp only [wt];rfl) ?_;have hcA:=hcp1 w0.drew hB.drew;simp -implicitDefEqProofs [go_sem,i3,j1,j2,j3,j4,j5,j6,j7,j8,j9,k1,k2];unfold endE;have hB1:Blk (w0.drew.setRow g C1) g C1 5:=Blk.row hB.drew C1
   have hv1:Blk (w0.drew.setRow g C1) vb #[.int .u8 (uv x)] 5:=Blk.rowOther hv.drew (Ne.symm hgv) C1;have bel1:Below base w0 (w0.drew.setRow g C1):=below_setRow bel0.drew hg C1;have hcB:=hcp2 _ hB1 hv1;simp -implicitDefEqProofs [go_sem,i3,j3,j5,hcA,hcB];refine body_tmp 6 rfl ?_;simp -implicitDefEqProofs [go_sem]
   exact ⟨_,_,⟨rfl,rfl⟩,rowK_owns (by simp;omega) hg (Blk.row hB1 C2) hroom hcap (by rw [hC2];simp;omega) hfin,below_setRow bel1 hg C2,⟨((((Mod.refl (BlkOf (some ⟨g,0,none⟩)) w0).drew).row (.inl ⟨_,rfl,rfl⟩) C1).row (.inl ⟨_,rfl,rfl⟩) C2),fun k hk=>.inl hk⟩⟩
  ·have hroom':(c:Int)<(n:Int)+1:=by omega
   have j1:(i:Int)≤c:=by omega
   obtain ⟨i0,hi0,hzz⟩:=Option.map_eq_some_iff.1 infoB;simp only [Prod.mk.injEq] at hzz;obtain ⟨hz0,hzs,hzb⟩:=hzz;have hold:(Builtin.firstCells i0.size i (.slice (some ⟨g,0,none⟩) i c)).run Tryz.prog w0.drew=.ok ((cellsK .u8 l).take i).toArray w0.drew:=by
    rw [hzs];refine run_firstCells_some w0.drew 1 i ⟨g,0,none⟩ i c ((cellsK .u8 l).take i) (by rw [List.length_take];omega) (fun j v hj=>?_);rw [Addr.add_lit,Nat.zero_add,hB.drew.cell];rw [List.getElem?_take] at hj;split at hj
    ·exact hX j v hj
    ·cases hj
   have hkk:(n:Int)+1-(i:Int)=((n+1-i:Nat):Int):=by omega
   have hik:i+(n+1-i)=n+1:=by omega
   obtain ⟨G,hG⟩:∃ G,G=grownCap w0 (n+1) c 5:=⟨_,rfl⟩;obtain ⟨ROW,hROW⟩:∃ ROW:Array Value,ROW=((cellsK .u8 l).take i).toArray++Builtin.zeroCells (Value.int .u8 0).cells (n+1-i)++Builtin.zeroCells (Value.int .u8 0).cells (G-(n+1)):=⟨_,rfl⟩;have hrz:∀ ty,(appendB #[36,3] ty #[.slice (some ⟨g,0,none⟩) i c,.int .i64 ((n:Int)+1-(i:Int))]).run Tryz.prog w0=.ok (.slice (some ⟨w0.heap.size,0,none⟩) (n+1) G) (w0.drew.alloc (.cells ROW 5)):=fun ty=>by
    have h:=Lib.run_append_grow_zeros w0 36 3 ty 5 i0 _ .i64 .i64 hT Tryz.underlying3 hi0 hz0 (some ⟨g,0,none⟩) i c ((cellsK .u8 l).take i) hold (n+1-i) (by omega) (by omega) (by omega) (by omega) (by rw [hzb];omega) (by rw [hzb,hik];exact growslice_fits (by omega) (by omega));rw [hik] at h;rw [hkk,hROW,hG];exact h
   have hGn:n+1≤G:=by rw [hG];exact grownCap_ge w0 _ _ _
   have hG63:G≤9223372036854775807:=by
    have:=grownCap_le_maxLen w0 (n+1) c 5 (by unfold maxLen;omega);rw [← hG] at this;unfold maxLen at this;omega
   have hRs:ROW.size=G:=by
    rw [hROW];simp [Builtin.zeroCells,Value.cells,hXl];omega
   have hRt:ROW.toList.take i=(cellsK .u8 l).take i:=by
    rw [hROW];simp only [Array.toList_append,List.append_assoc];rw [List.take_append_of_le_length (by simp [hXl];omega),List.take_of_length_le (by simp [hXl];omega)]
   obtain ⟨C1,hC1⟩:∃ C1:Array Value,C1=(ROW.toList.take i++[Value.int .u8 (uv x)]++ROW.toList.drop (i+1)).toArray:=⟨_,rfl⟩;have hRl:ROW.toList.length=G:=by rw [Array.length_toList,hRs]
   have hC1s:C1.size=G:=by rw [hC1];simp [hRl];omega
   obtain ⟨C2,hC2⟩:∃ C2:Array Value,C2=(C1.toList.take (i+1)++(cellsK .u8 l).drop i++C1.toList.drop (i+1+((cellsK .u8 l).drop i).length)).toArray:=⟨_,rfl⟩;obtain ⟨s,hs⟩:∃ s,s=w0.heap.size:=⟨_,rfl⟩;have hcp1:∀ (w:World),Blk w s ROW 5→Blk w vb #[.int .u8 (uv x)] 5→∀ ty d1,(copyB #[36,36] ty #[.slice (some ⟨s,i,none⟩) (n+1-i) d1,.slice (some ⟨vb,0,none⟩) 1 1]).run Tryz.prog w=.ok (goInt 1) (w.setRow s C1):=fun w hw hwv ty d1=>by
    have:=run_copy_row Tryz.prog w 36 36 ty 5 s i (n+1-i) d1 ⟨vb,0,none⟩ 1 1 ROW 5 [Value.int .u8 (uv x)] hT hsize hw (by simp only [Nat.min_def,List.length_singleton];split<;>omega)
     (fun j v hj=>by rw [Addr.add_lit,Nat.zero_add,hwv.cell];simpa using hj) (by simp only [List.length_singleton];omega) (by simp [Value.oneCell'])
    rw [hC1];exact this
   have hcp2:∀ (w:World),Blk w s C1 5→Blk w g C 5→∀ ty d1 d2,(copyB #[36,36] ty #[.slice (some ⟨s,i+1,none⟩) (n-i) d1,.slice (some ⟨g,i,none⟩) (n-i) d2]).run Tryz.prog w=.ok (goInt ((n-i:Nat):Int)) (w.setRow s C2):=fun w hw hwg ty d1 d2=>by
    have:=run_copy_row Tryz.prog w 36 36 ty 5 s (i+1) (n-i) d1 ⟨g,i,none⟩ (n-i) d2 C1 5 ((cellsK .u8 l).drop i) hT hsize hw (by rw [hdl];simp only [Nat.min_def];split<;>omega)
     (fun j v hj=>by rw [Addr.add_lit,hwg.cell];exact hX _ _ (by rwa [List.getElem?_drop] at hj)) (by rw [hdl];omega) (fun v hv=>cellsK_one v (List.mem_of_mem_drop hv))
    rw [hC2];rw [hdl] at this ⊢;exact this
   have hfin:C2.toList.take (n+1)=cellsK .u8 (l.take i++x::l.drop i):=by
    have h2:((cellsK .u8 l).take i).length=i:=by rw [List.length_take];omega
    have e1:C1.toList.take (i+1)=(cellsK .u8 l).take i++[Value.int .u8 (uv x)]:=by
     rw [hC1,hRt];show List.take (i+1) ((cellsK .u8 l).take i++[Value.int .u8 (uv x)]++ROW.toList.drop (i+1))=_;rw [List.take_append_of_le_length (by simp;omega),List.take_of_length_le (by simp;omega)]
    rw [hC2,hcells];show List.take (n+1) (C1.toList.take (i+1)++(cellsK .u8 l).drop i++C1.toList.drop (i+1+((cellsK .u8 l).drop i).length))=_;rw [e1,List.take_append_of_le_length (by simp [hXl];omega),List.take_of_length_le (by simp [hXl];omega)];simp
   have hgs:g≠s:=by have:=hB.lt;omega
   have hvs2:vb≠s:=by have:=hv.lt;omega
   have hWs:Blk (w0.alloc (.cells ROW 5)).drew s ROW 5:=by rw [hs];exact (Blk.new w0 ROW _).drew
   have hWv:Blk (w0.alloc (.cells ROW 5)).drew vb #[.int .u8 (uv x)] 5:=(hv.alloc _).drew;have hWg:Blk (w0.alloc (.cells ROW 5)).drew g C 5:=(hB.alloc _).drew;have bel1:Below base w0 (w0.alloc (.cells ROW 5)).drew:=(bel0.alloc hbase _).drew;have j3:(i:Int)≤n+1:=by omega
   have j4:¬ (G=i+1):=by omega
   have j5:¬ (G=i):=by omega
   have j6:((i:Int)+1).toNat=i+1:=by omega
   have j7:(0:Int)≤(i:Int)+1:=by omega
   have j8:¬ (c=i):=by omega
   have j9:(i:Int)+1≤n+1:=by omega
   rw [← hs] at hrz;have hcA:=hcp1 _ hWs hWv;have hWs2:=Blk.row hWs C1;have hWg2:=Blk.rowOther hWg hgs C1;have bel2:=below_setRow bel1 (show base≤s by omega) C1;refine ret_of (args:=[_,_,_]) _ Tryz.func196 rfl Tryz.ntmps196 (by simp) ?_;simp -implicitDefEqProofs [go_sem,i1,i2,i3,hne1,hroom',k1,k3,j1,hrz,j3,j5,hcA];refine drawE_tail 8 mixed (by decide +kernel) (by simp only [wt];rfl) (by simp only [wt];rfl) ?_;have hcB:=hcp2 _ hWs2.drew hWg2.drew
   simp -implicitDefEqProofs [go_sem,i1,i2,i3,j3,j4,j5,j6,j7,j8,j9,k2];unfold endE;simp -implicitDefEqProofs [go_sem,hcB];refine body_tmp 6 rfl ?_;simp -implicitDefEqProofs [go_sem];exact ⟨_,_,⟨rfl,rfl⟩,rowK_owns (by simp;omega) (by omega) (Blk.row hWs2.drew C2) hGn hG63 (by rw [hC2];simp [hXl];omega) hfin,below_setRow bel2.drew (by omega) C2,⟨((((((Mod.refl (BlkOf (some ⟨g,0,none⟩)) w0).alloc _).drew).row (.inr (by omega)) C1).drew).row (.inr (by omega)) C2),fun k hk=>by
    obtain ⟨y,e,rfl⟩:=hk;obtain rfl:=Option.some.inj e;exact .inr (by show w0.heap.size≤s;omega)⟩⟩
theorem idxW_calls (a:Option Addr)(l:List (BitVec 64))(c:Nat)(x:BitVec 64)(w:World)(hin:SlIn .u64 w a l c) :
  Ret Tryz.prog 217 #[.slice a l.length c,.int .u64 (uv x)] w fun v w'=>v=.int .i64 (if x∈l then ((l.idxOf x:Nat):Int) else -1)∧w'=w:=by
 have hmax:=hin.max;have hle:=hin.le;refine ret_of (args:=[_,_]) _ Tryz.func217 rfl Tryz.ntmps217 (by simp) ?_;simp -implicitDefEqProofs [go_sem];refine wpE_loop (fun e' w'=>w'=w∧∃ k:Nat,k≤l.length∧(∀ j,j<k→l[j]?≠some x)∧e' 0=.slice a l.length c∧e' 1=.int .u64 (uv x)∧e' 7=.int .i64 l.length∧e' 8=.int .i64 k) (fun e' _=>l.length-(intOf (e' 8)).toNat) ?_ ?_
 ·refine ⟨rfl,0,Nat.zero_le _,fun j hj=>absurd hj (Nat.not_lt_zero _),?_⟩;simp -implicitDefEqProofs [go_sem]
 ·rintro e' w' ⟨rfl,k,hk,hno,q0,q1,q7,q8⟩;by_cases hlt:k<l.length
  ·have hlt':(k:Int)<l.length:=by omega
   have hw:=IntWalk.i64_in ((k:Int)+1) (by omega);obtain ⟨b,o,rfl,g⟩:=hin.at_.cell hlt;by_cases e:x=l[k]
   ·have e':(x==l[k])=true:=by rw [beq_iff_eq];exact e
    have hmem:x∈l:=e▸List.getElem_mem hlt;have hidx:l.idxOf x=k:=by
     have h1:=List.idxOf_lt_length_of_mem hmem;have h2:l[l.idxOf x]=x:=List.getElem_idxOf h1
     rcases Nat.lt_trichotomy (l.idxOf x) k with h|h|h
     ·exact absurd (by rw [List.getElem?_eq_getElem h1,h2]) (hno _ h)
     ·exact h
     ·exact absurd e.symm (by have:=List.not_of_lt_findIdx (show k<l.findIdx (· == x) from h);simpa using this)
    simp -implicitDefEqProofs [go_sem,q0,q1,q7,q8,hlt,hlt',g,e'];refine body_tmp 4 rfl ?_;simp -implicitDefEqProofs [go_sem,hmem,hidx]
   ·have e':(x==l[k])=false:=by rw [beq_eq_false_iff_ne];exact e
    simp -implicitDefEqProofs [go_sem,q0,q1,q7,q8,hlt,hlt',g,e',hw];refine goE_round ⟨rfl,k+1,by omega,fun j hj=>?_,?_⟩ ?_
    ·by_cases ej:j=k
     ·subst ej;rw [List.getElem?_eq_getElem hlt];intro h;exact e (Option.some.inj h).symm
     ·exact hno j (by omega)
    ·simp -implicitDefEqProofs [go_sem,q0,q1,q7]
    ·simp -implicitDefEqProofs [go_sem,intOf,q8,hw];omega
  ·have hn:¬ (k:Int)<l.length:=by omega
   have hmem:¬ x∈l:=fun h=>by
    obtain ⟨j,hj,e⟩:=List.getElem_of_mem h;exact hno j (by omega) (by rw [List.getElem?_eq_getElem hj,e])
   simp -implicitDefEqProofs [go_sem,q0,q1,q7,q8,hlt,hn];refine body_tmp 4 rfl ?_;simp -implicitDefEqProofs [go_sem,hmem]
theorem infoW:(Tryz.prog.info? 42).map (fun i=>(i.zero,i.size,i.bytes))=some (some (.int .u64 0),1,8):=by kernel_rfl
theorem cloneW_calls (a:Option Addr)(l:List (BitVec 64))(c:Nat)(w0:World)(hl:l.length≤1000000)(hin:SlIn .u64 w0 a l c) :
  Ret Tryz.prog 205 #[.slice a l.length c] w0 fun v w'=>∃ a' c',v=.slice a' l.length c'∧w'.ownsRow w0.heap.size 42 1 (.slice a' l.length c') l.length (cellsK .u64 l)∧Below w0.heap.size w0 w':=by
 have nilEq:=fun w a n c=>Lib.run_eql_slice_nil (P:=Tryz.prog) w 100 42 a n c 0 0 Tryz.underlying100
 have bel0:=Below.refl w0.heap.size w0;refine ret_of (args:=[_]) _ Tryz.func205 rfl Tryz.ntmps205 (by simp) ?_;cases a with
 | none =>
  have h0:l=[]:=by
   rcases hin.at_ with h|⟨b,o,h,_⟩
   ·exact h
   ·cases h
  subst h0;have hc:=hin.nil rfl;subst hc;simp -implicitDefEqProofs [go_sem,nilEq];refine body_tmp 2 rfl ?_;simp -implicitDefEqProofs [go_sem];exact ⟨none,0,⟨rfl,rfl⟩,World.ownsRow_nil _ _ _ _,bel0⟩
 | some x =>
  have hlit:=World.ownsRow_lit (base:=w0.heap.size) (e:=42) (size:=1) w0 #[] 0 (Nat.le_refl _) (by decide) rfl;have b1:Below w0.heap.size w0 (w0.alloc (.cells #[] 42)):=bel0.alloc (Nat.le_refl _) _;obtain ⟨a2,c2,w2,hr,hown,hgr⟩:=run_append1 (P:=Tryz.prog) w0.heap.size (t:=100) (bytes:=8) (z:=.int .u64 0) 100 Tryz.underlying100 infoW rfl hlit (a2:=some x) (c2:=c) (m:=l.length) (news:=cellsK .u64 l) (cellsK_length)
   ((hin.at_.next b1).src) (fun h=>by cases h) cellsK_one (by omega) (by omega) (by simp)
  rw [Nat.zero_add,List.nil_append] at hown;rw [Nat.zero_add] at hr;simp -implicitDefEqProofs [go_sem,nilEq,hr];refine body_tmp 2 rfl ?_;simp -implicitDefEqProofs [go_sem];exact ⟨a2,c2,⟨rfl,rfl⟩,hown,b1.grown hgr (by simp) (fun j hj=>by simp [Value.ownBlock] at hj;omega)⟩
theorem insW_calls (a:Option Addr)(l:List (BitVec 64))(n c base i vb:Nat)(x:BitVec 64)(w0:World)(hl:l.length=n)(hn:n≤1000000)(hi:i≤n)(hbase:base≤w0.heap.size)
  (hown:w0.ownsRow base 42 1 (.slice a n c) n (cellsK .u64 l)) (hv:Blk w0 vb #[.int .u64 (uv x)] 42) (hne:∀ y,a=some y→y.block≠vb) :
  Ret Tryz.prog 197 #[.slice a n c,.int .i64 (i:Int),.slice (some ⟨vb,0,none⟩) 1 1] w0 fun v w'=>∃ a' c',v=.slice a' (n+1) c'∧w'.ownsRow base 42 1 (.slice a' (n+1) c') (n+1) (cellsK .u64 (l.take i++x::l.drop i))∧Below base w0 w'∧Turn w0 (BlkOf a) w' (BlkOf a'):=by
 have bel0:=Below.refl base w0;have hsl:=owns_slIn hl hown;have hcap:=hsl.max;have hnc:n≤c:=by have:=hsl.le;omega
 have hT:=Tryz.underlying100;have i1:(i:Int)≤n:=by omega
 have i2:(n:Int)≤c:=by omega
 have i3:(i:Int)≤c:=by omega
 have hvs:SrcAt w0 (some ⟨vb,0,none⟩) [Value.int .u64 (uv x)]:=.inr ⟨_,rfl,fun j u hu=>by rw [Addr.add_lit,Nat.zero_add,hv.cell];simpa using hu⟩;have k1:=IntWalk.i64_in ((n:Int)+1) (by omega);have k2:=IntWalk.i64_in ((i:Int)+1) (by omega);have k3:=IntWalk.i64_in ((n:Int)+1-i) (by omega);by_cases hin:i=n
 ·subst hin;obtain ⟨ti,tz,hti,htz,hts,htb,htc⟩:=EInfo.get (P:=Tryz.prog) (e:=42) (size:=1) (bytes:=8) (by unfold EInfo;kernel_rfl);obtain ⟨g2,c2,w2,hr,hown2,hgr,hwh⟩:=run_append_where (P:=Tryz.prog) (w:=w0) base (t:=100) (ty:=100) hT hti htz hts htb htc (by decide) hown (m:=1) (c:=1) ⟨vb,0,none⟩ (news:=[Value.int .u64 (uv x)]) rfl
   (fun j u hu=>by rw [Addr.add_lit,Nat.zero_add,hv.cell];simpa using hu) (by simp [Value.oneCell']) (by decide) (by omega) (by omega) hbase
  have hob:∀ k,Value.ownBlock (.slice a i c)=some k→BlkOf a k:=fun k hk=>by
   cases a with
   | none=>simp [Value.ownBlock] at hk
   | some y=>simp [Value.ownBlock] at hk;exact ⟨y,rfl,hk⟩
  have hturn:Turn w0 (BlkOf a) w2 (BlkOf (some ⟨g2,0,none⟩)):=⟨(mod_of_grown hgr).mono (fun k hk _=>hob k hk),fun k hk=>by
   obtain ⟨y,e,rfl⟩:=hk;obtain rfl:=Option.some.inj e
   rcases hwh with h|h
   ·exact .inl (hob _ h)
   ·exact .inr (by show w0.heap.size≤g2;omega)⟩
  refine ret_of (args:=[_,_,_]) _ Tryz.func197 rfl Tryz.ntmps197 (by simp) ?_;simp -implicitDefEqProofs [go_sem,i1,i2,i3,hr];refine body_tmp 6 rfl ?_;simp -implicitDefEqProofs [go_sem];refine ⟨some ⟨g2,0,none⟩,c2,⟨rfl,rfl⟩,?_,bel0.grown hgr hbase (fun j hj=>(hown.lt j hj).1),hturn⟩;have e:cellsK .u64 (l.take i++x::l.drop i)=cellsK .u64 l++[Value.int .u64 (uv x)]:=by
   rw [List.take_of_length_le (by omega),List.drop_of_length_le (by omega),cellsK_append];rfl
  rw [e];exact hown2
 ·obtain ⟨g,C,rfl,hg,hB,-,hcm,hCs,hCt⟩:=ownsK_row (by omega) hown;have hgv:g≠vb:=hne _ rfl;have hne1:((i:Int)==n)=false:=by rw [beq_eq_false_iff_ne];omega
  have hCl:C.toList.length=c:=by rw [Array.length_toList,hCs]
  have hXl:(cellsK .u64 l).length=n:=by rw [cellsK_length,hl]
  have hsize:(Tryz.prog.info? 42).map (·.size)=some 1:=by kernel_rfl
  have hdl:((cellsK .u64 l).drop i).length=n-i:=by rw [List.length_drop,hXl]
  have hX:∀ j v,(cellsK .u64 l)[j]?=some v→C[j]?=some v:=fun j v h=>by
   rw [← hCt,List.getElem?_take] at h;split at h
   ·rwa [Array.getElem?_toList] at h
   ·cases h
  have hcells:cellsK .u64 (l.take i++x::l.drop i)=(cellsK .u64 l).take i++Value.int .u64 (uv x)::(cellsK .u64 l).drop i:=by simp [cellsK]
  by_cases hroom:n+1≤c
  ·have hroom':¬ ((c:Int)<(n:Int)+1):=by omega
   have j1:(n:Int)+1≤c:=by omega
   have j2:(i:Int)+1≤n+1:=by omega
   have j3:(i:Int)≤n+1:=by omega
   have j4:¬ (c=i+1):=by omega
   have j5:¬ (c=i):=by omega
   have j6:((i:Int)+1).toNat=i+1:=by omega
   have j7:((n:Int)+1).toNat=n+1:=by omega
   have j8:(0:Int)≤(i:Int)+1:=by omega
   have j9:(0:Int)≤(n:Int)+1:=by omega
   have hsa:w0.shape? vb=some (42,1):=by unfold World.shape?;rw [show w0.heap[vb]?=_ from hv];rfl
   have hsb:w0.shape? g=some (42,C.size):=by unfold World.shape?;rw [show w0.heap[g]?=_ from hB]
   have hov:∀ lb cb,(callFunc 215 #[.slice (some ⟨vb,0,none⟩) 1 1,.slice (some ⟨g,i+1,none⟩) lb cb]).run Tryz.prog w0=.ok (.value (.bool false)) w0:=fun lb cb=>by
    rw [run_callFunc_extern Tryz.func215 (by kernel_rfl) (by kernel_rfl) (by kernel_rfl) (e:=Extern.SlicesOverlaps.overlaps #[100,100] #[4]) (by kernel_rfl),
     Lib.run_overlaps_apart w0 100 4 42 hT 1 (fun w=>by rfl) ⟨vb,0,none⟩ ⟨g,i+1,none⟩ 1 1 lb cb (Ne.symm hgv) 42 42 1 C.size hsa hsb (by omega) (hv.thaw 0) (hv.thaw 1)]
    rfl
   obtain ⟨C1,hC1⟩:∃ C1:Array Value,C1=(C.toList.take (i+1)++(cellsK .u64 l).drop i++C.toList.drop (i+1+((cellsK .u64 l).drop i).length)).toArray:=⟨_,rfl⟩;have hcp1:∀ (w:World),Blk w g C 42→∀ ty d1 d2,(copyB #[100,100] ty #[.slice (some ⟨g,i+1,none⟩) (n-i) d1,.slice (some ⟨g,i,none⟩) (n+1-i) d2]).run Tryz.prog w=.ok (goInt ((n-i:Nat):Int)) (w.setRow g C1):=fun w hw ty d1 d2=>by
    have:=run_copy_row Tryz.prog w 100 100 ty 42 g (i+1) (n-i) d1 ⟨g,i,none⟩ (n+1-i) d2 C 42 ((cellsK .u64 l).drop i) hT hsize hw (by rw [hdl];simp only [Nat.min_def];split<;>omega)
     (fun j v hj=>by rw [Addr.add_lit,hw.cell];exact hX _ _ (by rwa [List.getElem?_drop] at hj)) (by rw [hdl];omega) (fun v hv=>cellsK_one v (List.mem_of_mem_drop hv))
    rw [hC1];rw [hdl] at this ⊢;exact this
   have hC1s:C1.size=c:=by rw [hC1];simp [hCl,hXl];omega
   obtain ⟨C2,hC2⟩:∃ C2:Array Value,C2=(C1.toList.take i++[Value.int .u64 (uv x)]++C1.toList.drop (i+1)).toArray:=⟨_,rfl⟩;have hcp2:∀ (w:World),Blk w g C1 42→Blk w vb #[.int .u64 (uv x)] 42→∀ ty d1,(copyB #[100,100] ty #[.slice (some ⟨g,i,none⟩) (n+1-i) d1,.slice (some ⟨vb,0,none⟩) 1 1]).run Tryz.prog w=.ok (goInt 1) (w.setRow g C2):=fun w hw hwv ty d1=>by
    have:=run_copy_row Tryz.prog w 100 100 ty 42 g i (n+1-i) d1 ⟨vb,0,none⟩ 1 1 C1 42 [Value.int .u64 (uv x)] hT hsize hw (by simp only [Nat.min_def,List.length_singleton];split<;>omega)
     (fun j v hj=>by rw [Addr.add_lit,Nat.zero_add,hwv.cell];simpa using hj) (by simp only [List.length_singleton];omega) (by simp [Value.oneCell'])
    rw [hC2];exact this
   have hfin:C2.toList.take (n+1)=cellsK .u64 (l.take i++x::l.drop i):=by
    rw [hC2,hC1,hcells];exact ins_row hCt (by omega) hi
   refine ret_of (args:=[_,_,_]) _ Tryz.func197 rfl Tryz.ntmps197 (by simp) ?_;simp -implicitDefEqProofs [go_sem,i1,i2,i3,hne1,hroom',k1,k2,j1,j2,j3,j4,j5,j6,j7,j8,j9,hov];refine drawE_tail 8 mixed (by decide +kernel) (by simp only [wt];rfl) (by simp only [wt];rfl) ?_;have hcA:=hcp1 w0.drew hB.drew;simp -implicitDefEqProofs [go_sem,i3,j1,j2,j3,j4,j5,j6,j7,j8,j9,k1,k2];unfold endE;have hB1:Blk (w0.drew.setRow g C1) g C1 42:=Blk.row hB.drew C1
   have hv1:Blk (w0.drew.setRow g C1) vb #[.int .u64 (uv x)] 42:=Blk.rowOther hv.drew (Ne.symm hgv) C1;have bel1:Below base w0 (w0.drew.setRow g C1):=below_setRow bel0.drew hg C1;have hcB:=hcp2 _ hB1 hv1;simp -implicitDefEqProofs [go_sem,i3,j3,j5,hcA,hcB];refine body_tmp 6 rfl ?_;simp -implicitDefEqProofs [go_sem]
   exact ⟨_,_,⟨rfl,rfl⟩,rowK_owns (by simp;omega) hg (Blk.row hB1 C2) hroom hcap (by rw [hC2];simp;omega) hfin,below_setRow bel1 hg C2,⟨((((Mod.refl (BlkOf (some ⟨g,0,none⟩)) w0).drew).row (.inl ⟨_,rfl,rfl⟩) C1).row (.inl ⟨_,rfl,rfl⟩) C2),fun k hk=>.inl hk⟩⟩
  ·have hroom':(c:Int)<(n:Int)+1:=by omega
   have j1:(i:Int)≤c:=by omega
   obtain ⟨i0,hi0,hzz⟩:=Option.map_eq_some_iff.1 infoW;simp only [Prod.mk.injEq] at hzz;obtain ⟨hz0,hzs,hzb⟩:=hzz;have hold:(Builtin.firstCells i0.size i (.slice (some ⟨g,0,none⟩) i c)).run Tryz.prog w0.drew=.ok ((cellsK .u64 l).take i).toArray w0.drew:=by
    rw [hzs];refine run_firstCells_some w0.drew 1 i ⟨g,0,none⟩ i c ((cellsK .u64 l).take i) (by rw [List.length_take];omega) (fun j v hj=>?_);rw [Addr.add_lit,Nat.zero_add,hB.drew.cell];rw [List.getElem?_take] at hj;split at hj
    ·exact hX j v hj
    ·cases hj
   have hkk:(n:Int)+1-(i:Int)=((n+1-i:Nat):Int):=by omega
   have hik:i+(n+1-i)=n+1:=by omega
   obtain ⟨G,hG⟩:∃ G,G=grownCap w0 (n+1) c 42:=⟨_,rfl⟩;obtain ⟨ROW,hROW⟩:∃ ROW:Array Value,ROW=((cellsK .u64 l).take i).toArray++Builtin.zeroCells (Value.int .u64 0).cells (n+1-i)++Builtin.zeroCells (Value.int .u64 0).cells (G-(n+1)):=⟨_,rfl⟩;have hrz:∀ ty,(appendB #[100,3] ty #[.slice (some ⟨g,0,none⟩) i c,.int .i64 ((n:Int)+1-(i:Int))]).run Tryz.prog w0=.ok (.slice (some ⟨w0.heap.size,0,none⟩) (n+1) G) (w0.drew.alloc (.cells ROW 42)):=fun ty=>by
    have h:=Lib.run_append_grow_zeros w0 100 3 ty 42 i0 _ .i64 .i64 hT Tryz.underlying3 hi0 hz0 (some ⟨g,0,none⟩) i c ((cellsK .u64 l).take i) hold (n+1-i) (by omega) (by omega) (by omega) (by omega) (by rw [hzb];omega) (by rw [hzb,hik];exact growslice_fits (by omega) (by omega));rw [hik] at h;rw [hkk,hROW,hG];exact h
   have hGn:n+1≤G:=by rw [hG];exact grownCap_ge w0 _ _ _
   have hG63:G≤9223372036854775807:=by
    have:=grownCap_le_maxLen w0 (n+1) c 42 (by unfold maxLen;omega);rw [← hG] at this;unfold maxLen at this;omega
   have hRs:ROW.size=G:=by
    rw [hROW];simp [Builtin.zeroCells,Value.cells,hXl];omega
   have hRt:ROW.toList.take i=(cellsK .u64 l).take i:=by
    rw [hROW];simp only [Array.toList_append,List.append_assoc];rw [List.take_append_of_le_length (by simp [hXl];omega),List.take_of_length_le (by simp [hXl];omega)]
   obtain ⟨C1,hC1⟩:∃ C1:Array Value,C1=(ROW.toList.take i++[Value.int .u64 (uv x)]++ROW.toList.drop (i+1)).toArray:=⟨_,rfl⟩;have hRl:ROW.toList.length=G:=by rw [Array.length_toList,hRs]
   have hC1s:C1.size=G:=by rw [hC1];simp [hRl];omega
   obtain ⟨C2,hC2⟩:∃ C2:Array Value,C2=(C1.toList.take (i+1)++(cellsK .u64 l).drop i++C1.toList.drop (i+1+((cellsK .u64 l).drop i).length)).toArray:=⟨_,rfl⟩;obtain ⟨s,hs⟩:∃ s,s=w0.heap.size:=⟨_,rfl⟩;have hcp1:∀ (w:World),Blk w s ROW 42→Blk w vb #[.int .u64 (uv x)] 42→∀ ty d1,(copyB #[100,100] ty #[.slice (some ⟨s,i,none⟩) (n+1-i) d1,.slice (some ⟨vb,0,none⟩) 1 1]).run Tryz.prog w=.ok (goInt 1) (w.setRow s C1):=fun w hw hwv ty d1=>by
    have:=run_copy_row Tryz.prog w 100 100 ty 42 s i (n+1-i) d1 ⟨vb,0,none⟩ 1 1 ROW 42 [Value.int .u64 (uv x)] hT hsize hw (by simp only [Nat.min_def,List.length_singleton];split<;>omega)
     (fun j v hj=>by rw [Addr.add_lit,Nat.zero_add,hwv.cell];simpa using hj) (by simp only [List.length_singleton];omega) (by simp [Value.oneCell'])
    rw [hC1];exact this
   have hcp2:∀ (w:World),Blk w s C1 42→Blk w g C 42→∀ ty d1 d2,(copyB #[100,100] ty #[.slice (some ⟨s,i+1,none⟩) (n-i) d1,.slice (some ⟨g,i,none⟩) (n-i) d2]).run Tryz.prog w=.ok (goInt ((n-i:Nat):Int)) (w.setRow s C2):=fun w hw hwg ty d1 d2=>by
    have:=run_copy_row Tryz.prog w 100 100 ty 42 s (i+1) (n-i) d1 ⟨g,i,none⟩ (n-i) d2 C1 42 ((cellsK .u64 l).drop i) hT hsize hw (by rw [hdl];simp only [Nat.min_def];split<;>omega)
     (fun j v hj=>by rw [Addr.add_lit,hwg.cell];exact hX _ _ (by rwa [List.getElem?_drop] at hj)) (by rw [hdl];omega) (fun v hv=>cellsK_one v (List.mem_of_mem_drop hv))
    rw [hC2];rw [hdl] at this ⊢;exact this
   have hfin:C2.toList.take (n+1)=cellsK .u64 (l.take i++x::l.drop i):=by
    have h2:((cellsK .u64 l).take i).length=i:=by rw [List.length_take];omega
    have e1:C1.toList.take (i+1)=(cellsK .u64 l).take i++[Value.int .u64 (uv x)]:=by
     rw [hC1,hRt];show List.take (i+1) ((cellsK .u64 l).take i++[Value.int .u64 (uv x)]++ROW.toList.drop (i+1))=_;rw [List.take_append_of_le_length (by simp;omega),List.take_of_length_le (by simp;omega)]
    rw [hC2,hcells];show List.take (n+1) (C1.toList.take (i+1)++(cellsK .u64 l).drop i++C1.toList.drop (i+1+((cellsK .u64 l).drop i).length))=_;rw [e1,List.take_append_of_le_length (by simp [hXl];omega),List.take_of_length_le (by simp [hXl];omega)];simp
   have hgs:g≠s:=by have:=hB.lt;omega
   have hvs2:vb≠s:=by have:=hv.lt;omega
   have hWs:Blk (w0.alloc (.cells ROW 42)).drew s ROW 42:=by rw [hs];exact (Blk.new w0 ROW _).drew
   have hWv:Blk (w0.alloc (.cells ROW 42)).drew vb #[.int .u64 (uv x)] 42:=(hv.alloc _).drew;have hWg:Blk (w0.alloc (.cells ROW 42)).drew g C 42:=(hB.alloc _).drew;have bel1:Below base w0 (w0.alloc (.cells ROW 42)).drew:=(bel0.alloc hbase _).drew;have j3:(i:Int)≤n+1:=by omega
   have j4:¬ (G=i+1):=by omega
   have j5:¬ (G=i):=by omega
   have j6:((i:Int)+1).toNat=i+1:=by omega
   have j7:(0:Int)≤(i:Int)+1:=by omega
   have j8:¬ (c=i):=by omega
   have j9:(i:Int)+1≤n+1:=by omega
   rw [← hs] at hrz;have hcA:=hcp1 _ hWs hWv;have hWs2:=Blk.row hWs C1;have hWg2:=Blk.rowOther hWg hgs C1;have bel2:=below_setRow bel1 (show base≤s by omega) C1;refine ret_of (args:=[_,_,_]) _ Tryz.func197 rfl Tryz.ntmps197 (by simp) ?_;simp -implicitDefEqProofs [go_sem,i1,i2,i3,hne1,hroom',k1,k3,j1,hrz,j3,j5,hcA];refine drawE_tail 8 mixed (by decide +kernel) (by simp only [wt];rfl) (by simp only [wt];rfl) ?_;have hcB:=hcp2 _ hWs2.drew hWg2.drew
   simp -implicitDefEqProofs [go_sem,i1,i2,i3,j3,j4,j5,j6,j7,j8,j9,k2];unfold endE;simp -implicitDefEqProofs [go_sem,hcB];refine body_tmp 6 rfl ?_;simp -implicitDefEqProofs [go_sem];exact ⟨_,_,⟨rfl,rfl⟩,rowK_owns (by simp;omega) (by omega) (Blk.row hWs2.drew C2) hGn hG63 (by rw [hC2];simp [hXl];omega) hfin,below_setRow bel2.drew (by omega) C2,⟨((((((Mod.refl (BlkOf (some ⟨g,0,none⟩)) w0).alloc _).drew).row (.inr (by omega)) C1).drew).row (.inr (by omega)) C2),fun k hk=>by
    obtain ⟨y,e,rfl⟩:=hk;obtain rfl:=Option.some.inj e;exact .inr (by show w0.heap.size≤s;omega)⟩⟩
end
end
section
open Go Go.RowKit
section
set_option maxHeartbeats 1000000
theorem delB_calls (a:Option Addr)(l:List (BitVec 8))(n c base i:Nat)(w0:World)(hl:l.length=n)(hn:n≤1000000)(hi:i<n)(hbase:base≤w0.heap.size)
  (hown:w0.ownsRow base 5 1 (.slice a n c) n (cellsK .u8 l)) :
  Ret Tryz.prog 190 #[.slice a n c,.int .i64 (i:Int),.int .i64 ((i:Int)+1)] w0 fun v w'=>∃ a' c',v=.slice a' (n-1) c'∧w'.ownsRow base 5 1 (.slice a' (n-1) c') (n-1) (cellsK .u8 (l.eraseIdx i))∧Below base w0 w'∧Turn w0 (BlkOf a) w' (BlkOf a'):=by
 have bel0:=Below.refl base w0;have hT:=Tryz.underlying36;obtain ⟨g,C,rfl,hg,hB,hnc,hcm,hCs,hCt⟩:=ownsK_row (by omega) hown;have hCl:C.toList.length=c:=by rw [Array.length_toList,hCs]
 have hXl:(cellsK .u8 l).length=n:=by rw [cellsK_length,hl]
 have hX:∀ j v,(cellsK .u8 l)[j]?=some v→C[j]?=some v:=fun j v h=>by
  rw [← hCt,List.getElem?_take] at h;split at h
  ·rwa [Array.getElem?_toList] at h
  ·cases h
 obtain ⟨i0,hi0,hzz⟩:=Option.map_eq_some_iff.1 infoB;simp only [Prod.mk.injEq] at hzz;obtain ⟨hz0,hzs,hzb⟩:=hzz;have hdl:((cellsK .u8 l).drop (i+1)).length=n-(i+1):=by rw [List.length_drop,hXl]
 obtain ⟨C1,hC1⟩:∃ C1:Array Value,C1=(C.toList.take i++(cellsK .u8 l).drop (i+1)++C.toList.drop (i+(n-(i+1)))).toArray:=⟨_,rfl⟩;have hC1s:C1.size=c:=by rw [hC1];simp [hCl,hXl];omega
 have hap:∀ (w:World) (a':Addr),Blk w g C 5→(n-(i+1)=0∨a'=⟨g,i+1,none⟩)→∀ ty d1,(appendB #[36,36] ty #[.slice (some ⟨g,0,none⟩) i c,.slice (some a') (n-(i+1)) d1]).run Tryz.prog w=.ok (.slice (some ⟨g,0,none⟩) (n-1) c) (w.setRow g C1):=fun w a' hw ha ty d1=>by
  have h:=run_append_room (P:=Tryz.prog) w 36 ty 5 i0 hT hi0 g i c C hw a' (n-(i+1)) d1 ((cellsK .u8 l).drop (i+1)) (by rw [hdl,hzs,Nat.mul_one]) (fun j v hj=>by
   rcases ha with h0|rfl
   ·rw [List.getElem?_eq_none (by rw [hdl];omega)] at hj;cases hj
   ·rw [Addr.add_lit,hw.cell];exact hX _ _ (by rwa [List.getElem?_drop] at hj)) (fun v hv=>cellsK_one v (List.mem_of_mem_drop hv)) (by omega) (by rw [hdl,hzs,hCs,Nat.mul_one];omega)
  rw [hzs,Nat.mul_one,hdl,← hC1,show i+(n-(i+1))=n-1 by omega] at h;exact h
 have hfin:(C1.setIfInBounds (n-1) (.int .u8 0)).toList.take (n-1)=cellsK .u8 (l.eraseIdx i):=by
  rw [List.eraseIdx_eq_take_drop_succ,cellsK_append,Array.toList_setIfInBounds,List.take_set_of_le (by omega),hC1];show List.take (n-1) (C.toList.take i++(cellsK .u8 l).drop (i+1)++C.toList.drop (i+(n-(i+1))))=_;have e1:C.toList.take i=(cellsK .u8 l).take i:=by rw [← hCt,List.take_take,Nat.min_eq_left (by omega)]
  rw [e1,List.take_append_of_le_length (by simp [hXl];omega),List.take_of_length_le (by simp [hXl];omega)];simp [cellsK]
 have i1:(i:Int)≤n:=by omega
 have i2:(n:Int)≤c:=by omega
 have i3:(i:Int)≤c:=by omega
 have i4:(i:Int)+1≤n:=by omega
 have i5:(i:Int)≤i+1:=by omega
 have i6:((i:Int)==i+1)=false:=by rw [beq_eq_false_iff_ne];omega
 have i7:((i:Int)+1).toNat=i+1:=by omega
 have i8:(0:Int)≤(i:Int)+1:=by omega
 have k2:=IntWalk.i64_in ((i:Int)+1) (by omega);obtain ⟨n1,hn1⟩:∃ n1:Nat,n1=n-1:=⟨_,rfl⟩;have i9:(n1:Int)≤n:=by omega
 have i10:¬ (c=n1):=by omega
 have i11:n-n1=1:=by omega
 rw [← hn1] at hap hfin ⊢;have hB1:Blk (w0.drew.setRow g C1) g C1 5:=Blk.row hB.drew C1;have bel1:Below base w0 (w0.drew.setRow g C1):=below_setRow bel0.drew hg C1;have hclr:=fun ty d=>Lib.run_clear_slice (P:=Tryz.prog) (w0.drew.setRow g C1) 36 5 ty (.int .u8 0) hT (fun w=>by rfl) rfl rfl g n1 1 d (by omega) (fun j hj=>by rw [hB1.cell,Array.getElem?_eq_getElem (by omega)];rfl) (fun j hj=>hB1.thaw _)
 have hB2:=hB1.set n1 (.int .u8 0);have bel2:Below base w0 ((w0.drew.setRow g C1).setCell ⟨g,n1,none⟩ (.int .u8 0)):=bel1.setCell hg _;have hnn:n1≤n:=by omega
 have hturn:Turn w0 (BlkOf (some ⟨g,0,none⟩)) ((w0.drew.setRow g C1).setCell ⟨g,n1,none⟩ (.int .u8 0)) (BlkOf (some ⟨g,0,none⟩)):=⟨((((Mod.refl (BlkOf (some ⟨g,0,none⟩)) w0).drew).row (.inl ⟨_,rfl,rfl⟩) C1).setCell (a:=⟨g,n1,none⟩) (.inl ⟨_,rfl,rfl⟩) _),fun k hk=>.inl hk⟩;by_cases hjc:c=i+1
 ·refine ret_of (args:=[_,_,_]) _ Tryz.func190 rfl Tryz.ntmps190 (by simp) ?_;simp -implicitDefEqProofs [go_sem,i1,i2,i3,i4,i5,i6,i7,i8];refine drawE_tail 6 mixed (by decide +kernel) (by simp only [wt];rfl) (by simp only [wt];rfl) ?_;have hapA:=hap w0.drew ⟨g,0,none⟩ hB.drew (.inl (by omega));have hnc':n≤i+1:=by omega
  have i10':¬ (i+1=n1):=by omega
  have i12:(n:Int)≤(i:Int)+1:=by omega
  rw [hjc,show n-(i+1)=0 by omega] at hapA;simp -implicitDefEqProofs [go_sem,i1,i2,i3,i4,i5,i6,i7,i8,hjc];unfold endE;simp -implicitDefEqProofs [go_sem,hapA,hjc,i9,i10',i11,i12,hnc',hnn,hclr,World.setCells,List.replicate];refine body_tmp 6 rfl ?_;simp -implicitDefEqProofs [go_sem];exact ⟨_,_,⟨rfl,rfl⟩,rowK_owns (by rw [List.length_eraseIdx_of_lt (by omega)];omega) hg hB2 (by omega) (by omega) (by rw [Array.size_setIfInBounds];omega) hfin,bel2,hturn⟩
 ·refine ret_of (args:=[_,_,_]) _ Tryz.func190 rfl Tryz.ntmps190 (by simp) ?_;simp -implicitDefEqProofs [go_sem,i1,i2,i3,i4,i5,i6,i7,i8];refine drawE_tail 6 mixed (by decide +kernel) (by simp only [wt];rfl) (by simp only [wt];rfl) ?_;have hapA:=hap w0.drew ⟨g,i+1,none⟩ hB.drew (.inr rfl);simp -implicitDefEqProofs [go_sem,i1,i2,i3,i4,i5,i6,i7,i8,hjc];unfold endE;simp -implicitDefEqProofs [go_sem,hapA,hjc,i9,i10,i11,hnc,hnn,hclr,World.setCells,List.replicate];refine body_tmp 6 rfl ?_
  simp -implicitDefEqProofs [go_sem];exact ⟨_,_,⟨rfl,rfl⟩,rowK_owns (by rw [List.length_eraseIdx_of_lt (by omega)];omega) hg hB2 (by omega) hcm (by rw [Array.size_setIfInBounds];exact hC1s) hfin,bel2,hturn⟩
theorem delW_calls (a:Option Addr)(l:List (BitVec 64))(n c base i:Nat)(w0:World)(hl:l.length=n)(hn:n≤1000000)(hi:i<n)(hbase:base≤w0.heap.size)
  (hown:w0.ownsRow base 42 1 (.slice a n c) n (cellsK .u64 l)) :
  Ret Tryz.prog 191 #[.slice a n c,.int .i64 (i:Int),.int .i64 ((i:Int)+1)] w0 fun v w'=>∃ a' c',v=.slice a' (n-1) c'∧w'.ownsRow base 42 1 (.slice a' (n-1) c') (n-1) (cellsK .u64 (l.eraseIdx i))∧Below base w0 w'∧Turn w0 (BlkOf a) w' (BlkOf a'):=by
 have bel0:=Below.refl base w0;have hT:=Tryz.underlying100;obtain ⟨g,C,rfl,hg,hB,hnc,hcm,hCs,hCt⟩:=ownsK_row (by omega) hown;have hCl:C.toList.length=c:=by rw [Array.length_toList,hCs]
 have hXl:(cellsK .u64 l).length=n:=by rw [cellsK_length,hl]
 have hX:∀ j v,(cellsK .u64 l)[j]?=some v→C[j]?=some v:=fun j v h=>by
  rw [← hCt,List.getElem?_take] at h;split at h
  ·rwa [Array.getElem?_toList] at h
  ·cases h
 obtain ⟨i0,hi0,hzz⟩:=Option.map_eq_some_iff.1 infoW;simp only [Prod.mk.injEq] at hzz;obtain ⟨hz0,hzs,hzb⟩:=hzz;have hdl:((cellsK .u64 l).drop (i+1)).length=n-(i+1):=by rw [List.length_drop,hXl]
 obtain ⟨C1,hC1⟩:∃ C1:Array Value,C1=(C.toList.take i++(cellsK .u64 l).drop (i+1)++C.toList.drop (i+(n-(i+1)))).toArray:=⟨_,rfl⟩;have hC1s:C1.size=c:=by rw [hC1];simp [hCl,hXl];omega
 have hap:∀ (w:World) (a':Addr),Blk w g C 42→(n-(i+1)=0∨a'=⟨g,i+1,none⟩)→∀ ty d1,(appendB #[100,100] ty #[.slice (some ⟨g,0,none⟩) i c,.slice (some a') (n-(i+1)) d1]).run Tryz.prog w=.ok (.slice (some ⟨g,0,none⟩) (n-1) c) (w.setRow g C1):=fun w a' hw ha ty d1=>by
  have h:=run_append_room (P:=Tryz.prog) w 100 ty 42 i0 hT hi0 g i c C hw a' (n-(i+1)) d1 ((cellsK .u64 l).drop (i+1)) (by rw [hdl,hzs,Nat.mul_one]) (fun j v hj=>by
   rcases ha with h0|rfl
   ·rw [List.getElem?_eq_none (by rw [hdl];omega)] at hj;cases hj
   ·rw [Addr.add_lit,hw.cell];exact hX _ _ (by rwa [List.getElem?_drop] at hj)) (fun v hv=>cellsK_one v (List.mem_of_mem_drop hv)) (by omega) (by rw [hdl,hzs,hCs,Nat.mul_one];omega)
  rw [hzs,Nat.mul_one,hdl,← hC1,show i+(n-(i+1))=n-1 by omega] at h;exact h
 have hfin:(C1.setIfInBounds (n-1) (.int .u64 0)).toList.take (n-1)=cellsK .u64 (l.eraseIdx i):=by
  rw [List.eraseIdx_eq_take_drop_succ,cellsK_append,Array.toList_setIfInBounds,List.take_set_of_le (by omega),hC1];show List.take (n-1) (C.toList.take i++(cellsK .u64 l).drop (i+1)++C.toList.drop (i+(n-(i+1))))=_;have e1:C.toList.take i=(cellsK .u64 l).take i:=by rw [← hCt,List.take_take,Nat.min_eq_left (by omega)]
  rw [e1,List.take_append_of_le_length (by simp [hXl];omega),List.take_of_length_le (by simp [hXl];omega)];simp [cellsK]
 have i1:(i:Int)≤n:=by omega
 have i2:(n:Int)≤c:=by omega
 have i3:(i:Int)≤c:=by omega
 have i4:(i:Int)+1≤n:=by omega
 have i5:(i:Int)≤i+1:=by omega
 have i6:((i:Int)==i+1)=false:=by rw [beq_eq_false_iff_ne];omega
 have i7:((i:Int)+1).toNat=i+1:=by omega
 have i8:(0:Int)≤(i:Int)+1:=by omega
 have k2:=IntWalk.i64_in ((i:Int)+1) (by omega);obtain ⟨n1,hn1⟩:∃ n1:Nat,n1=n-1:=⟨_,rfl⟩;have i9:(n1:Int)≤n:=by omega
 have i10:¬ (c=n1):=by omega
 have i11:n-n1=1:=by omega
 rw [← hn1] at hap hfin ⊢;have hB1:Blk (w0.drew.setRow g C1) g C1 42:=Blk.row hB.drew C1;have bel1:Below base w0 (w0.drew.setRow g C1):=below_setRow bel0.drew hg C1;have hclr:=fun ty d=>Lib.run_clear_slice (P:=Tryz.prog) (w0.drew.setRow g C1) 100 42 ty (.int .u64 0) hT (fun w=>by rfl) rfl rfl g n1 1 d (by omega) (fun j hj=>by rw [hB1.cell,Array.getElem?_eq_getElem (by omega)];rfl) (fun j hj=>hB1.thaw _)
 have hB2:=hB1.set n1 (.int .u64 0);have bel2:Below base w0 ((w0.drew.setRow g C1).setCell ⟨g,n1,none⟩ (.int .u64 0)):=bel1.setCell hg _;have hnn:n1≤n:=by omega
 have hturn:Turn w0 (BlkOf (some ⟨g,0,none⟩)) ((w0.drew.setRow g C1).setCell ⟨g,n1,none⟩ (.int .u64 0)) (BlkOf (some ⟨g,0,none⟩)):=⟨((((Mod.refl (BlkOf (some ⟨g,0,none⟩)) w0).drew).row (.inl ⟨_,rfl,rfl⟩) C1).setCell (a:=⟨g,n1,none⟩) (.inl ⟨_,rfl,rfl⟩) _),fun k hk=>.inl hk⟩;by_cases hjc:c=i+1
 ·refine ret_of (args:=[_,_,_]) _ Tryz.func191 rfl Tryz.ntmps191 (by simp) ?_;simp -implicitDefEqProofs [go_sem,i1,i2,i3,i4,i5,i6,i7,i8];refine drawE_tail 6 mixed (by decide +kernel) (by simp only [wt];rfl) (by simp only [wt];rfl) ?_;have hapA:=hap w0.drew ⟨g,0,none⟩ hB.drew (.inl (by omega));have hnc':n≤i+1:=by omega
  have i10':¬ (i+1=n1):=by omega
  have i12:(n:Int)≤(i:Int)+1:=by omega
  rw [hjc,show n-(i+1)=0 by omega] at hapA;simp -implicitDefEqProofs [go_sem,i1,i2,i3,i4,i5,i6,i7,i8,hjc];unfold endE;simp -implicitDefEqProofs [go_sem,hapA,hjc,i9,i10',i11,i12,hnc',hnn,hclr,World.setCells,List.replicate];refine body_tmp 6 rfl ?_;simp -implicitDefEqProofs [go_sem];exact ⟨_,_,⟨rfl,rfl⟩,rowK_owns (by rw [List.length_eraseIdx_of_lt (by omega)];omega) hg hB2 (by omega) (by omega) (by rw [Array.size_setIfInBounds];omega) hfin,bel2,hturn⟩
 ·refine ret_of (args:=[_,_,_]) _ Tryz.func191 rfl Tryz.ntmps191 (by simp) ?_;simp -implicitDefEqProofs [go_sem,i1,i2,i3,i4,i5,i6,i7,i8];refine drawE_tail 6 mixed (by decide +kernel) (by simp only [wt];rfl) (by simp only [wt];rfl) ?_;have hapA:=hap w0.drew ⟨g,i+1,none⟩ hB.drew (.inr rfl);simp -implicitDefEqProofs [go_sem,i1,i2,i3,i4,i5,i6,i7,i8,hjc];unfold endE;simp -implicitDefEqProofs [go_sem,hapA,hjc,i9,i10,i11,hnc,hnn,hclr,World.setCells,List.replicate];refine body_tmp 6 rfl ?_
  simp -implicitDefEqProofs [go_sem];exact ⟨_,_,⟨rfl,rfl⟩,rowK_owns (by rw [List.length_eraseIdx_of_lt (by omega)];omega) hg hB2 (by omega) hcm (by rw [Array.size_setIfInBounds];exact hC1s) hfin,bel2,hturn⟩
end
end
end Go.Proofs.YtaaihijkdhmcdaaGreatDoor
