/- WholeImage, part 23 of 38: contracts and lemmas of its proof. Conditions: none. -/
import Derived.Test.YtaaihijkdhmcdaaGreatDoorW21
set_option linter.unusedVariables false
set_option linter.unusedSimpArgs false
set_option maxRecDepth 100000
namespace Go.Proofs.YtaaihijkdhmcdaaGreatDoor
section
open Go Go.RowKit
namespace TR
def subT (c:List Fr)(t:Tr)(i:Nat):Tr:=plug (c.drop i) t
def lbW (c:List Fr):Nat→Nb
 | 0=>0#8
 | i+1=>match c[i]? with|some f=>f.x|none=>0#8
def wdW (c:List Fr)(t:Tr):Nat→Nat
 | 0=>72
 | i+1=>(subT c t i).off+8*numW (subT c t i).nv (match c[i]? with|some f=>f.l.len|none=>0)
theorem lbW_succ (c:List Fr)(i:Nat):lbW c (i+1)=match c[i]? with|some f=>f.x|none=>0#8:=rfl
theorem wdW_succ (c:List Fr)(t:Tr)(i:Nat):wdW c t (i+1)=(subT c t i).off+8*numW (subT c t i).nv (match c[i]? with|some f=>f.l.len|none=>0):=rfl
theorem subT_snoc (c:List Fr)(f:Fr)(t:Tr){i:Nat}(h:i≤c.length):subT (c++[f]) t i=subT c (f.fill t) i:=by
 unfold subT;rw [List.drop_append_of_le_length h,plug_app];rfl
theorem lbW_snoc (c:List Fr)(f:Fr){i:Nat}(h:i≤c.length):lbW (c++[f]) i=lbW c i:=by
 cases i with
 | zero=>rfl
 | succ i=>rw [lbW_succ,lbW_succ,List.getElem?_append_left (by omega)]
theorem wdW_snoc (c:List Fr)(f:Fr)(t:Tr){i:Nat}(h:i≤c.length):wdW (c++[f]) t i=wdW c (f.fill t) i:=by
 cases i with
 | zero=>rfl
 | succ i=>rw [wdW_succ,wdW_succ,List.getElem?_append_left (by omega),subT_snoc c f t (by omega)]
theorem subT_len (c:List Fr)(t:Tr):subT c t c.length=t:=by unfold subT;rw [List.drop_length];rfl
theorem lbW_end (c:List Fr)(f:Fr):lbW (c++[f]) (c.length+1)=f.x:=by rw [lbW_succ];simp
theorem wdW_end (c:List Fr)(f:Fr)(t:Tr):wdW (c++[f]) t (c.length+1)=f.off+8*numW (f.fill t).nv f.l.len:=by
 rw [wdW_succ,subT_snoc c f t (Nat.le_refl _),subT_len];simp [Fr.fill,Tr.off]
theorem pth_len:∀ c:List Fr,c.length≤(pth c).length
 | []=>Nat.zero_le _
 | f::c=>by
  have:=pth_len c;show _≤(f.pre++f.x::pth c).length;rw [List.length_append,List.length_cons,List.length_cons];omega
theorem cmn_full:∀ {a b:List Nb},cmn a b=a.length→b.take a.length=a
 | [],b,_=>by simp
 | x::a,[],h=>by simp [cmn] at h
 | x::a,y::b,h=>by
  unfold cmn at h;split at h
  ·rename_i e;have h2:cmn a b=a.length:=by simpa using h
   simp [cmn_full h2,e]
  ·simp at h
def EndW (t:Tr)(r:List Nb):Prop:=cmn t.pre r<t.pre.length∨cmn t.pre r=r.length∨∃ x∈r[t.pre.length]?,cmn t.pre r=t.pre.length∧x∉t.ks.labels
end TR
open TR
theorem SlIn.drop {n:Nat}{k:IntKind}{w:World}{b o c:Nat}{l:List (BitVec n)}(h:SlIn k w (some ⟨b,o,none⟩) l c){i:Nat}(hi:i≤l.length):SlIn k w (if c=i then some ⟨b,o,none⟩ else some ⟨b,o+i,none⟩) (l.drop i) (c-i):=by
 have hle:=h.le;have hmx:=h.max;refine ⟨?_,by rw [List.length_drop];omega,by omega,fun h=>by split at h<;>cases h⟩;by_cases e:c=i
 ·left;exact List.drop_eq_nil_of_le (by omega)
 ·rw [if_neg e]
  rcases h.at_ with h1|⟨b',o',hb,hc⟩
  ·left;rw [h1];simp
  ·right;simp only [Option.some.injEq,Addr.mk.injEq,and_true] at hb;obtain ⟨rfl,rfl⟩:=hb;refine ⟨b,o+i,rfl,fun j hj=>?_⟩;rw [List.length_drop] at hj;have:=hc (i+j) (by omega);rw [show o+i+j=o+(i+j) by omega,this,List.getElem_drop]
def plC (q:NP)(n:NdV)(off:Nat)(lab:Nb)(word:Nat):Array Value :=
 #[.slice q.a1 n.pre.length q.c1,.int .u64 (uv n.val),.slice q.a2 n.labels.length q.c2,.slice q.a3 n.kids.length q.c3,.int .i64 (off:Int),.int .u8 (uv lab),.int .i64 (word:Int)]
def wayL (Q:Nat→NP)(c:List Fr)(t:Tr)(k:Nat):List (Array Value):=(List.range k).map fun i=>plC (Q i) (subT c t i).nv (subT c t i).off (lbW c i) (wdW c t i)
theorem wayL_len (Q:Nat→NP)(c:List Fr)(t:Tr)(k:Nat):(wayL Q c t k).length=k:=by simp [wayL]
theorem wayL_size (Q:Nat→NP)(c:List Fr)(t:Tr)(k:Nat):∀ x∈wayL Q c t k,x.size=7:=by
 intro x hx;obtain ⟨i,_,rfl⟩:=List.mem_map.1 hx;rfl
theorem plC_one (q:NP)(n:NdV)(off:Nat)(lab:Nb)(word:Nat):∀ v∈(plC q n off lab word).toList,v.oneCell'=true:=by
 intro v hv;simp [plC] at hv
 rcases hv with rfl|rfl|rfl|rfl|rfl|rfl|rfl<;>rfl
theorem wayL_get (Q:Nat→NP)(c:List Fr)(t:Tr){k i:Nat}(h:i<k):(wayL Q c t k)[i]'(by rw [wayL_len];exact h)=plC (Q i) (subT c t i).nv (subT c t i).off (lbW c i) (wdW c t i):=by simp [wayL]
theorem wayL_snoc (Q:Nat→NP)(c:List Fr)(f:Fr)(t:Tr){k:Nat}(hk:k≤c.length+1):wayL Q (c++[f]) t k=wayL Q c (f.fill t) k:=by
 unfold wayL;refine List.map_congr_left fun i hi=>?_
 have:=List.mem_range.1 hi;rw [subT_snoc c f t (by omega),lbW_snoc c f (by omega),wdW_snoc c f t (by omega)]
theorem wayL_succ (Q:Nat→NP)(q:NP)(c:List Fr)(t:Tr):wayL (fun i=>if i=c.length then q else Q i) c t (c.length+1)=wayL Q c t c.length++[plC q t.nv t.off (lbW c c.length) (wdW c t c.length)]:=by
 unfold wayL;rw [List.range_succ,List.map_append,List.map_singleton];dsimp only;rw [if_pos rfl,subT_len]
 congr 1
 refine List.map_congr_left fun i hi=>?_
 have:=List.mem_range.1 hi;rw [if_neg (by omega)]
theorem eI_pl:EInfo Tryz.prog 236 7 104:=by unfold EInfo;kernel_rfl
theorem plI:(Tryz.prog.info? 236).map (·.size)=some 7:=by kernel_rfl
structure WayIn (w:World) (Q:Nat→NP) (a:Option Addr) (cap:Nat) (c:List Fr) (t:Tr) (k:Nat):Prop where
 row:RIn w 7 a (wayL Q c t k) cap
 nd:∀ i,i<k→NdIn w (Q i) (subT c t i).nv
def PathF (B z:Nat)(a:Option Addr)(k:Nat):Prop:=BlkOf a k∨k=z∨k<B
theorem SepA.mono {w:World}{F F':Nat→Prop}{a:Option Addr}(h:SepA w F a)(hF:∀ k,F' k→F k):SepA w F' a:=fun y hy=>⟨(h y hy).1,fun hf=>(h y hy).2 (hF _ hf)⟩
theorem NdS.mono {w:World}{F F':Nat→Prop}{q:NP}{n:NdV}(h:NdS w F q n)(hF:∀ k,F' k→F k):NdS w F' q n:=⟨h.in_,h.s1.mono hF,h.s2.mono hF,h.s3.mono hF⟩
structure WayN (w:World) (B:Nat) (Q:Nat→NP) (a a7:Option Addr) (c:List Fr) (t:Tr) (k:Nat):Prop where
 nd:∀ i,i<k→NdS w (fun z=>z<B) (Q i) (subT c t i).nv
 s7:SepA w (fun z=>z<B) a7
 sa:SepA w (fun z=>z<B) a
theorem WayN.next {w w':World}{B:Nat}{Q:Nat→NP}{a a7:Option Addr}{c:List Fr}{t:Tr}{k:Nat}(h:WayN w B Q a a7 c t k)(hb:Below w.heap.size w w'):WayN w' B Q a a7 c t k:=⟨fun i hi=>(h.nd i hi).next hb,h.s7.next hb,h.sa.next hb⟩
section
variable {w w':World} {m b p:Nat} {V:PV} {G G' F:Nat→Prop}
set_option maxHeartbeats 4000000
theorem idxPath_calls (x:Nat)(key:ByteArray)(T:Tr)(w0:World)(h:Pd w0 m V b p G)(hr:Rest m V)(hm:m=6∨m=24)(hx:Blk w0 x (IxC p b) 178)(hk:key.size≤16)(h72:V.D.word 72=nameW T.off)(hT:T.At (NAt m V))(hO:T.Ok []) :
  Ret Tryz.prog 128 #[.pointer (some ⟨x,0,none⟩),.string key] w0 fun v w'=>∃ c t r Q a cap a7 c7,T=plug c t∧nibs key=pth c++r∧EndW t r∧v=.tuple #[.slice a (c.length+1) cap,.slice a7 r.length c7,.int .i64 0]∧WayIn w' Q a cap c t (c.length+1)∧SlIn .u8 w' a7 r c7∧Below w0.heap.size w0 w'∧WayN w' w0.heap.size Q a a7 c t (c.length+1):=by
 have bel0:=Below.refl w0.heap.size w0;have zf:=sz hm;have hnl:=nibs_len key;have h0:=h;have hx0:=hx;refine ret_of (args:=[_,_]) _ Tryz.func128 rfl Tryz.ntmps128 (by simp) ?_;simp -implicitDefEqProofs [go_sem];refine callE_of (nibOf_calls key w0 (by omega)) ?_;rintro v w1 ⟨a1,c1,rfl,hR1,hN1,b1⟩;have bel1:=btr bel0 b1;replace h:=h.next b1
 replace hx:=hx.next b1
 simp -implicitDefEqProofs [go_sem];refine callE_of (idxRoot_calls x w1 h hr hm hx) ?_;rintro v w2 ⟨rfl,b2⟩;have bel2:=btr bel1 b2;replace h:=h.next b2
 replace hx:=hx.next b2
 replace hR1:=hR1.next b2
 rw [h72];simp -implicitDefEqProofs [go_sem];generalize hw3:World.alloc w2 _=w3 at *;obtain ⟨hB3,b3,sz3,bel3⟩:=newF hw3 bel2;replace h:=h.next b3
 replace hx:=hx.next b3
 replace hR1:=hR1.next b3
 refine wpE_loop (fun e' w'=>∃ (c:List Fr) (s:Tr) (r:List Nb) (Q:Nat→NP) (a:Option Addr) (cap:Nat) (a7:Option Addr) (c7:Nat) (q0 q1 q2 q3 q4:Value),
   T=plug c s∧nibs key=pth c++r∧e' 0=.pointer (some ⟨x,0,none⟩)∧e' 7=.slice a7 r.length c7∧e' 8=.int .u64 (uv (nameW s.off))∧e' 10=.slice a c.length cap∧e' 11=.pointer (some ⟨w2.heap.size,0,none⟩) ∧
   Blk w' w2.heap.size #[q0,q1,q2,q3,q4,.int .u8 (uv (lbW c c.length)),.int .i64 (wdW c s c.length)] 236 ∧
   w'.ownsRow w0.heap.size 236 7 (.slice a c.length cap) c.length (flatR (wayL Q c s c.length))∧¬ BlkOf a w2.heap.size ∧
   (∀ i,i<c.length→NdS w' (PathF w0.heap.size w2.heap.size a) (Q i) (subT c s i).nv)∧SlIn .u8 w' a7 r c7∧SepA w' (PathF w0.heap.size w2.heap.size a) a7∧Below w0.heap.size w0 w')
  (fun e' _=>match e' 7 with | .slice _ n _=>n|_=>0) ?_ ?_
 ·refine ⟨[],T,nibs key,fun _=>⟨none,0,none,0,none,0⟩,none,0,a1,c1,.slice none 0 0,.int .u64 0,.slice none 0 0,.slice none 0 0,.int .i64 0,rfl,rfl,?_⟩;simp -implicitDefEqProofs [go_sem];refine ⟨hB3,?_,?_,hR1,?_,bel3⟩
  ·exact ⟨rfl,.inl ⟨rfl,rfl⟩⟩
  ·rintro ⟨y,hy,_⟩;cases hy
  ·intro y hy;have h1:=hN1 y hy;have:=b2.size;refine ⟨by omega,?_⟩;rintro (⟨y',hy',_⟩|hk|hk)
   ·cases hy'
   ·omega
   ·omega
 ·rintro e' w4 ⟨c,s,r,Q,a,cap,a7,c7,q0,q1,q2,q3,q4,rfl,hkey,g0,g7,g8,g10,g11,hB4,hown4,hna,hnd4,hR4,hS4,bel4⟩;have hs:=plug_at hT;have hsO:=plug_ok hO;obtain ⟨so,sp,sv,sk⟩:=s;have hN:=(at_nd.1 hs).1;obtain ⟨n1,n2,n3,n4⟩:=hN.in_ hm;have hne:=name_ne (o:=so) (by omega) (by omega);obtain ⟨e1,e2⟩:=name_int (o:=so) (by omega);have hne':(nameW so != 0#64)=true:=by simpa using hne
  rw [show (Tr.nd so sp sv sk).off=so from rfl] at g8;obtain ⟨F4,hF4⟩:∃ F4:Nat→Prop,F4=PathF w0.heap.size w2.heap.size a:=⟨_,rfl⟩;have hF4b:F4 w2.heap.size:=by rw [hF4];exact .inr (.inl rfl)
  rw [← hF4] at hnd4 hS4;have s2:w2.heap.size<w4.heap.size:=hB4.lt;have s02:=bel2.size;have hcl:c.length≤32:=by
   have h3:=congrArg List.length hkey;have h4:=pth_len c;rw [List.length_append] at h3;omega
  simp -implicitDefEqProofs [go_sem,g0,g7,g8,g10,g11,hne',e1,hB4.cell,hB4.thaw];have hB5:=hB4.set 4 (.int .i64 (so:Int));have t5:Turn w4 F4 (w4.setCell ⟨w2.heap.size,4,none⟩ (.int .i64 (so:Int))) F4:=⟨(Mod.refl _ _).setCell (.inl hF4b) _,fun k hk=>.inl hk⟩;have bel5:=bel4.setCell (p:=⟨w2.heap.size,4,none⟩) (show w0.heap.size≤w2.heap.size by omega) (.int .i64 (so:Int))
  have m5:Mod (fun k=>k=w2.heap.size) w4 (w4.setCell ⟨w2.heap.size,4,none⟩ (.int .i64 (so:Int))):=(Mod.refl (fun k=>k=w2.heap.size) w4).setCell (.inl rfl) _;have hown5:=ownsRow_turn hown4 m5 (fun k hk e=>hna (e▸hk));replace hB5:Blk _ w2.heap.size #[q0,q1,q2,q3,.int .i64 (so:Int),.int .u8 (uv (lbW c c.length)),.int .i64 (wdW c (Tr.nd so sp sv sk) c.length)] _:=hB5;generalize World.setCell w4 _ _=w5 at *;refine callE_of (idxRead_calls x so _ w5 (h0.next bel5) hr hm (hx0.next bel5) hN) ?_
  rintro v w6 ⟨q,rfl,hq6,hqk,b6⟩;have bel6:=btr bel5 b6;have t6:=t5.trans (Turn.of b6);have hB6:=hB5.next b6
  obtain ⟨n,hn⟩:∃ n:NdV,n=⟨sp,sv,sk.labels,sk.offs⟩:=⟨_,rfl⟩;rw [← hn] at hN hq6 n3 n4 ⊢;have st7:=stE (P:=Tryz.prog) (ty:=234) (o:=0) (cs:=q.cs n) hB6 ndI (by show 0+4≤7;decide) (q.cs_one n);obtain ⟨C7,hC7⟩:∃ C7,C7=plC q n so (lbW c c.length) (wdW c (Tr.nd so sp sv sk) c.length):=⟨_,rfl⟩;have e7:segPut #[q0,q1,q2,q3,.int .i64 (so:Int),.int .u8 (uv (lbW c c.length)),.int .i64 (wdW c (Tr.nd so sp sv sk) c.length)] 0 (q.cs n)=C7:=by rw [hC7];rfl
  rw [e7] at st7;have hB7:=hB6.row C7;have t7:Turn w6 F4 (w6.setRow w2.heap.size C7) F4:=⟨(Mod.refl F4 w6).row (.inl hF4b) _,fun k hk=>.inl hk⟩;have bel7:=below_setRow bel6 s02 C7;have m7:Mod (fun k=>k=w2.heap.size) w6 (w6.setRow w2.heap.size C7):=(Mod.refl (fun k=>k=w2.heap.size) w6).row (.inl rfl) _;have hown7:=ownsRow_turn (ownsRow_turn hown5 (Mod.of b6 (F:=fun _=>False)) (fun _ _ h=>h)) m7 (fun k hk e=>hna (e▸hk));obtain ⟨w7,hw7⟩:∃ w7,w7=w6.setRow w2.heap.size C7:=⟨_,rfl⟩
  have sz7:w7.heap.size=w6.heap.size:=by rw [hw7];simp
  rw [← hw7] at st7 hB7 t7 bel7 m7 hown7;have t47:=t6.trans t7;have ld7:=ldAll (P:=Tryz.prog) hB7 Tryz.underlying236 rfl plI (n:=7) (by rw [hC7];rfl);obtain ⟨g,cap',w8,hr8,hown8,hg8,hg8',hsz8,t8⟩:=push_own (P:=Tryz.prog) (t:=230) (ty:=230) (cs:=C7) Tryz.underlying230 eI_pl (by decide) (by rw [hC7];rfl) (by rw [hC7];exact plC_one _ _ _ _ _) (by decide) (by omega) bel7.size hown7;rw [hC7] at ld7 hr8;unfold plC at ld7 hr8;have hB8:Blk w8 w2.heap.size C7 _:=hB7.mod t8.mod hna
  obtain ⟨F8,hF8⟩:∃ F8:Nat→Prop,F8=PathF w0.heap.size w2.heap.size (some ⟨g,0,none⟩):=⟨_,rfl⟩;have t78:Turn w7 F4 w8 F8:=⟨t8.mod.mono fun k hk _=>by rw [hF4];exact .inl hk,fun k hk=>by
   rw [hF8] at hk
   rcases hk with ⟨y,hy,hk⟩|hk|hk
   ·obtain rfl:=Option.some.inj hy
    rcases t8.new k hk.symm with h1|h1
    ·left;rw [hF4];exact .inl h1
    ·exact .inr h1
   ·left;rw [hk];exact hF4b
   ·left;rw [hF4];exact .inr (.inr hk)⟩
  have t48:=t47.trans t78;have hnd8:=fun i hi=>(hnd4 i hi).turn t48
  have hR8:=hR4.turn hS4 t48;have hS8:=hS4.turn t48;have bel8:Below w0.heap.size w0 w8:=bel7.trans (t8.mod.below bel7.size fun k hk=>(ownsRow_blk hown7 k hk).1);have hq6s:NdS w6 F4 q n:=by
   have key:∀ {y:Option Addr},(∀ k,BlkOf y k→w5.heap.size≤k∧k<w6.heap.size)→SepA w6 F4 y:=fun hy z hz=>by
    obtain ⟨k1,k2⟩:=hy _ ⟨z,hz,rfl⟩;refine ⟨k2,fun hf=>?_⟩;rw [hF4] at hf;have s5:=bel5.size
    rcases hf with hf|hf|hf
    ·have:=(ownsRow_blk hown5 _ hf).2;omega
    ·have:=hB5.lt;omega
    ·omega
   exact ⟨hq6,key fun k hk=>hqk k (.inl hk),key fun k hk=>hqk k (.inr (.inl hk)),key fun k hk=>hqk k (.inr (.inr hk))⟩
  have hq8:=hq6s.turn (t7.trans t78);have hc0:C7[0]?=some (.slice q.a1 n.pre.length q.c1):=by rw [hC7];rfl
  simp -implicitDefEqProofs [go_sem,g0,g7,g8,g10,g11,hne',e1,↓st7,↓ld7,hr8,hB8.cell,hc0];refine callE_of (nibCommon_calls q.a1 a7 n.pre r q.c1 c7 w8 hq8.in_.pre hR8) ?_;rintro v w9 ⟨rfl,b9⟩;have bel9:=btr bel8 b9;have hB9:=hB8.next b9
  have hown9:=ownsRow_turn hown8 (Mod.of b9 (F:=fun _=>False)) (fun _ _ h=>h);have hnd9:=fun i hi=>(hnd8 i hi).next b9
  have hq9:=hq8.next b9
  have hR9:=hR8.next b9
  have hS9:=hS8.next b9
  obtain ⟨sm,hsm⟩:∃ sm,sm=cmn n.pre r:=⟨_,rfl⟩;have hle:=cmn_le n.pre r;rw [← hsm] at hle ⊢;obtain ⟨Q',hQ'⟩:∃ Q':Nat→NP,Q'=fun i=>if i=c.length then q else Q i:=⟨_,rfl⟩
  have hrow:wayL Q' c (Tr.nd so sp sv sk) (c.length+1)=wayL Q c (Tr.nd so sp sv sk) c.length++[C7]:=by rw [hQ',wayL_succ,hC7,hn];rfl
  have hflat:flatR (wayL Q c (Tr.nd so sp sv sk) c.length)++C7.toList=flatR (wayL Q' c (Tr.nd so sp sv sk) (c.length+1)):=by rw [hrow,flatR_append,flatR_one]
  rw [hflat] at hown9;have hnd9':∀ i,i<c.length+1→NdS w9 F8 (Q' i) (subT c (Tr.nd so sp sv sk) i).nv:=fun i hi=>by
   rw [hQ'];dsimp only;by_cases e:i=c.length
   ·rw [if_pos e,e,subT_len];have:(Tr.nd so sp sv sk).nv=n:=by rw [hn];rfl
    rw [this];exact hq9
   ·rw [if_neg e];exact hnd9 i (by omega)
  have hin9:WayIn w9 Q' (some ⟨g,0,none⟩) cap' c (Tr.nd so sp sv sk) (c.length+1):=⟨owns_rin (wayL_size _ _ _ _) (wayL_len _ _ _ _) hown9,fun i hi=>(hnd9' i hi).in_⟩;have hpn:(Tr.nd so sp sv sk).pre=n.pre:=by rw [hn];rfl
  have hF8lt:∀ k,k<w0.heap.size→F8 k:=fun k hk=>by rw [hF8];exact .inr (.inr hk)
  have hWN:WayN w9 w0.heap.size Q' (some ⟨g,0,none⟩) a7 c (Tr.nd so sp sv sk) (c.length+1):=⟨fun i hi=>(hnd9' i hi).mono hF8lt,hS9.mono hF8lt,fun y hy=>by
   have h1:=ownsRow_blk hown9 y.block ⟨y,hy,rfl⟩;exact ⟨h1.2,by omega⟩⟩
  by_cases h1:sm<n.pre.length
  ·have h1':(sm:Int)<n.pre.length:=by omega
   simp -implicitDefEqProofs [go_sem,g0,g7,g8,g10,g11,hB9.cell,hc0,h1,h1'];refine body_tmp3 4 5 6 rfl ?_;simp -implicitDefEqProofs [go_sem];exact ⟨c,_,rfl,r,hkey,.inl (by rw [hpn,← hsm];exact h1),Q',_,_,_,_,⟨⟨rfl,rfl,rfl⟩,rfl,rfl,rfl⟩,hin9,hR9,bel9,hWN⟩
  ·by_cases h2:sm=r.length
   ·have h1':¬ (sm:Int)<n.pre.length:=by omega
    have h2':((sm:Int)==(r.length:Int))=true:=by rw [beq_iff_eq];omega
    have h1'':¬ r.length<n.pre.length:=by omega
    simp -implicitDefEqProofs [go_sem,g0,g7,g8,g10,g11,hB9.cell,hc0,h1,h1',h1'',h2'];refine body_tmp3 4 5 6 rfl ?_;simp -implicitDefEqProofs [go_sem];exact ⟨c,_,rfl,r,hkey,.inr (.inl (by rw [hpn,← hsm];exact h2)),Q',_,_,_,_,⟨⟨rfl,rfl,rfl⟩,rfl,rfl,rfl⟩,hin9,hR9,bel9,hWN⟩
   ·have h1':¬ (sm:Int)<n.pre.length:=by omega
    have h2':((sm:Int)==(r.length:Int))=false:=by rw [beq_eq_false_iff_ne];omega
    have hsmp:sm=n.pre.length:=by omega
    have hlt:sm<r.length:=by omega
    have hlt':(sm:Int)<r.length:=by omega
    have hnn:¬ (sm:Int)<0:=by omega
    have hc1:C7[1]?=some (.int .u64 (uv n.val)):=by rw [hC7];rfl
    have hc2:C7[2]?=some (.slice q.a2 n.labels.length q.c2):=by rw [hC7];rfl
    have hc3:C7[3]?=some (.slice q.a3 n.kids.length q.c3):=by rw [hC7];rfl
    simp -implicitDefEqProofs [go_sem,g0,g7,g8,g10,g11,hB9.cell,hc0,h1,h1',h2,h2'];refine drawE_mix [.pure 0,.pure 2,.pure 3,.pure 4,.take 1,.run 5 [1],.run 6 [],.pure 7,.pure 8,.pure 9,.pure 10,.pure 11,.pure 12,.pure 13] mixed (by decide +kernel) (by simp only [wo];rfl) ?_;have bd:=(Below.refl w9.heap.size w9).drew;have bel10:=bel9.drew;generalize World.drew w9=w10 at *;obtain ⟨rb,ro,hra,hrc⟩:=(hR9.next bd).at_.cell hlt;simp -implicitDefEqProofs [go_sem,g0,g7,g8,g10,g11,hlt,hlt',hnn,hra]
    refine onTake_of (fun w'=>Below w9.heap.size w9 w') (.agg (q.cs n)) bd (fun w' hw=>by simp -implicitDefEqProofs [go_sem,(hB9.next hw).cell,hc0,hc1,hc2,hc3,NP.cs]) ?_;simp -implicitDefEqProofs [go_sem,g0,g7,g8,g10,g11,hra,hrc,hlt,hlt',hnn];have hq10:=hq9.next bd
    have hR10:=hR9.next bd
    have hS10:=hS9.next bd
    have hB10:=hB9.next bd
    have hnd10:=fun i hi=>(hnd9' i hi).next bd
    have hown10:=ownsRow_turn hown9 (Mod.of bd (F:=fun _=>False)) (fun _ _ h=>h);by_cases hx:r[sm]∈n.labels
    ·obtain ⟨kl,kt,kr,rfl,hkl⟩:=kid_split (show r[sm]∈sk.labels by rw [hn] at hx;exact hx);have hll:=labels_len kl;have hol:=offs_len kl;have hr32:r.length≤32:=by
      have:=congrArg List.length hkey;rw [List.length_append] at this;omega
     have hi1:kl.len<n.labels.length:=by rw [hn,show (NdV.labels ⟨sp,sv,(kl.app (.cons r[sm] kt kr)).labels,(kl.app (.cons r[sm] kt kr)).offs⟩)=(kl.app (.cons r[sm] kt kr)).labels from rfl,app_labels,List.length_append,hll];simp [Ks.labels]
     have hi2:kl.len<n.kids.length:=by rw [hn,show (NdV.kids ⟨sp,sv,(kl.app (.cons r[sm] kt kr)).labels,(kl.app (.cons r[sm] kt kr)).offs⟩)=(kl.app (.cons r[sm] kt kr)).offs from rfl,app_offs,List.length_append,hol];simp [Ks.offs]
     have hgl:n.labels[kl.len]=r[sm]:=by simp only [hn,app_labels,Ks.labels];rw [List.getElem_append_right (by omega)];simp [hll]
     have hgk:n.kids[kl.len]=nameW kt.off:=by simp only [hn,app_offs,Ks.offs];rw [List.getElem_append_right (by omega)];simp [hol]
     refine callE_of (nodeKid_calls q n r[sm] w10 hq10.in_ hN.right hi1 hi2 hgl) ?_;rw [hgk];rintro v w11 ⟨rfl,b11⟩;refine ⟨.inr ?_,?_⟩
     ·simp -implicitDefEqProofs [go_sem]
     have bel11:=btr bel10 b11;have b911:=btr bd b11;have nl:=num_lt hN.right hi2;have hmle:n.many≤32:=by rcases many_eq n with ⟨e,_⟩|⟨e,_⟩<;>omega
     obtain ⟨nm,hnm⟩:∃ nm,nm=numW n kl.len:=⟨_,rfl⟩;rw [← hnm] at nl ⊢;have u1:=IntWalk.i64_in (8*(nm:Int)) (by omega);have u2:=IntWalk.i64_in ((so:Int)+8*(nm:Int)) (by omega);have hc4:C7[4]?=some (.int .i64 (so:Int)):=by rw [hC7];rfl
     simp -implicitDefEqProofs [go_sem,g0,g7,g8,g10,g11,hra];refine drawE_mix [.pure 0,.pure 1,.pure 2,.pure 4,.pure 6,.pure 7,.take 3,.run 5 [3],.pure 8,.pure 9,.run 10 [],.pure 11,.run 12 []] mixed (by decide +kernel) (by simp only [wo];rfl) ?_;have bd2:=(Below.refl w11.heap.size w11).drew;have b912:=btr b911 bd2;have bel12:=bel11.drew;generalize World.drew w11=w12 at *;have hB12:=hB9.next b912
     obtain ⟨rb',ro',hra',hrc'⟩:=(hR9.next b912).at_.cell hlt;rw [hra] at hra';obtain ⟨rfl,rfl⟩:rb=rb'∧ro=ro':=by simpa using hra'
     simp -implicitDefEqProofs [go_sem,g0,g7,g8,g10,g11,hra,hlt,hlt',hnn,u1];have hrB:rb≠w2.heap.size:=fun e=>(hS9 _ hra).2 (by rw [hF8];exact .inr (.inl e))
     have hc5:C7[5]?=some (.int .u8 (uv (lbW c c.length))):=by rw [hC7];rfl
     have hc6:C7[6]?=some (.int .i64 (wdW c (Tr.nd so sp sv (kl.app (.cons r[sm] kt kr))) c.length:Int)):=by rw [hC7];rfl
     refine onTake_of (fun w'=>w'.cell? ⟨rb,ro+sm,none⟩=some (.int .u8 (uv r[sm]))) (.int .u8 (uv r[sm])) hrc' (fun w' hw=>by simp -implicitDefEqProofs [go_sem,hw]) ?_;simp -implicitDefEqProofs [go_sem,g0,g7,g8,g10,g11,hB12.cell,hB12.thaw,hc4,hc5,hc6,u2];have u3:=IntWalk.i64_in ((sm:Int)+1) (by omega);have hrle:=hR9.le;have hrmx:=hR9.max;have v1:(0:Int)≤(sm:Int)+1:=by omega
     have v2:(sm:Int)+1≤r.length:=by omega
     have v3:sm+1≤r.length:=by omega
     refine drawE_still mixed (by decide +kernel) ?_;simp -implicitDefEqProofs [go_sem,g0,g7,g8,g10,g11,hra,u3,v1,v2,v3];unfold endE;simp -implicitDefEqProofs [go_sem];have hBe:=((hB12.set 5 (.int .u8 (uv r[sm]))).set 6 (.int .i64 ((so:Int)+8*(nm:Int)))).next (Below.refl _ _).drew
     have te:Turn w12 F8 _ F8:=⟨(((Mod.refl F8 w12).setCell (a:=⟨w2.heap.size,5,none⟩) (.inl (by rw [hF8];exact .inr (.inl rfl))) (.int .u8 (uv r[sm]))).setCell (a:=⟨w2.heap.size,6,none⟩) (.inl (by rw [hF8];exact .inr (.inl rfl))) (.int .i64 ((so:Int)+8*(nm:Int)))).drew,fun k hk=>.inl hk⟩
     have me:Mod (fun k=>k=w2.heap.size) w12 _:=(((Mod.refl (fun k=>k=w2.heap.size) w12).setCell (a:=⟨w2.heap.size,5,none⟩) (.inl rfl) (.int .u8 (uv r[sm]))).setCell (a:=⟨w2.heap.size,6,none⟩) (.inl rfl) (.int .i64 ((so:Int)+8*(nm:Int)))).drew;have bele:=((bel12.setCell (p:=⟨w2.heap.size,5,none⟩) (show w0.heap.size≤w2.heap.size by omega) (.int .u8 (uv r[sm]))).setCell (p:=⟨w2.heap.size,6,none⟩) (show w0.heap.size≤w2.heap.size by omega) (.int .i64 ((so:Int)+8*(nm:Int)))).drew
     generalize World.drew (World.setCell (World.setCell w12 _ _) _ _)=w13 at *;obtain ⟨f,hf⟩:∃ f:Fr,f=⟨so,sp,sv,kl,r[sm],kr⟩:=⟨_,rfl⟩;have hfill:Tr.nd so sp sv (kl.app (.cons r[sm] kt kr))=f.fill kt:=by rw [hf];rfl
     have hlen:(c++[f]).length=c.length+1:=by simp
     have hfn:(f.fill kt).nv=n:=by rw [← hfill,hn];rfl
     have hgn:¬ BlkOf (some ⟨g,0,none⟩) w2.heap.size:=by
      rintro ⟨y,hy,hk⟩;obtain rfl:=Option.some.inj hy;have hk:g=w2.heap.size:=hk
      rcases t8.new g rfl with h3|h3
      ·rw [hk] at h3;exact hna h3
      ·have:=hB7.lt;omega
     refine goE_round ⟨c++[f],kt,r.drop (sm+1),Q',some ⟨g,0,none⟩,cap',if c7=sm+1 then some ⟨rb,ro,none⟩ else some ⟨rb,ro+(sm+1),none⟩,c7-(sm+1),.slice q.a1 n.pre.length q.c1,.int .u64 (uv n.val),.slice q.a2 n.labels.length q.c2,.slice q.a3 n.kids.length q.c3,.int .i64 (so:Int),?_⟩ ?_
     ·rw [hlen,lbW_end,wdW_end,hfn];refine ⟨?_,?_,?_⟩
      ·rw [plug_app,hfill];rfl
      ·rw [pth_app,hkey,List.append_assoc,show pth [f]=sp++[r[sm]] by rw [hf];rfl,List.append_assoc]
       congr 1
       have ht:r.take sm=sp:=by
        have h3:=cmn_full (a:=sp) (b:=r) (by rw [hn] at hsm hsmp;rw [← hsm,hsmp]);rw [hn] at hsmp;rw [hsmp];exact h3
       rw [← ht,List.singleton_append,← List.drop_eq_getElem_cons hlt,List.take_append_drop]
      simp -implicitDefEqProofs [go_sem,List.length_drop,g0];refine ⟨g11,?_,?_,hgn,?_,?_,?_,bele⟩
      ·have e6:((C7.setIfInBounds 5 (.int .u8 (uv r[sm]))).setIfInBounds 6 (.int .i64 ((so:Int)+8*(nm:Int))))=#[.slice q.a1 n.pre.length q.c1,.int .u64 (uv n.val),.slice q.a2 n.labels.length q.c2,.slice q.a3 n.kids.length q.c3,.int .i64 (so:Int),.int .u8 (uv f.x),.int .i64 ((f.off:Int)+8*(numW n f.l.len:Int))]:=by rw [hC7,hnm,hf];rfl
       rw [← e6];exact hBe
      ·rw [wayL_snoc Q' c f kt (Nat.le_refl _),← hfill];exact ownsRow_turn (ownsRow_turn hown9 (Mod.of b912 (F:=fun _=>False)) (fun _ _ h=>h)) me (fun k hk e=>hgn (e▸hk))
      ·intro i hi;rw [subT_snoc c f kt (by omega),← hfill,← hF8];exact ((hnd9' i hi).next b912).turn te
      ·have:=((hR9.next b912).turn (hS9.next b912) te);rw [hra] at this;exact this.drop (by omega)
      ·rw [← hF8];have:=(hS9.next b912).turn te;rw [hra] at this;intro y hy;have hy2:y.block=rb:=by split at hy<;>(obtain rfl:=Option.some.inj hy;rfl)
       have h3:=this _ rfl;rw [hy2];exact h3
     ·simp -implicitDefEqProofs [go_sem,g7,List.length_drop,intOf];omega
    ·refine callE_of (nodeKidNo_calls q n r[sm] w10 hq10.in_ hx) ?_;rintro v w11 ⟨rfl,b11⟩;refine ⟨.inr ?_,?_⟩
     ·simp -implicitDefEqProofs [go_sem]
     simp -implicitDefEqProofs [go_sem,g0,g7,g8,g10,g11];refine body_tmp3 4 5 6 rfl ?_;simp -implicitDefEqProofs [go_sem];have hrx:r[(Tr.nd so sp sv sk).pre.length]?=some r[sm]:=by rw [hpn,← hsmp,List.getElem?_eq_getElem hlt]
     have hxl:r[sm]∉(Tr.nd so sp sv sk).ks.labels:=by rw [hn] at hx;exact hx
     have b911:=btr bd b11;exact ⟨c,_,rfl,r,hkey,.inr (.inr ⟨r[sm],hrx,by rw [hpn,← hsm];exact hsmp,hxl⟩),Q',_,_,_,_,⟨⟨rfl,rfl,rfl⟩,rfl,rfl,rfl⟩,⟨hin9.row.next b911,fun i hi=>((hnd9' i hi).next b911).in_⟩,hR9.next b911,btr bel10 b11,hWN.next b911⟩
end
end
section
open Go Go.RowKit
open TR
section
variable {w w':World} {m b p:Nat} {V:PV} {G G' F:Nat→Prop}
set_option maxHeartbeats 4000000
theorem idxPathNo_calls (x:Nat)(key:ByteArray)(w0:World)(h:Pd w0 m V b p G)(hr:Rest m V)(hm:m=6∨m=24)(hx:Blk w0 x (IxC p b) 178)(hk:key.size≤16)(h72:V.D.word 72=0#64) :
  Ret Tryz.prog 128 #[.pointer (some ⟨x,0,none⟩),.string key] w0 fun v w'=>∃ a7 c7,v=.tuple #[.slice none 0 0,.slice a7 (nibs key).length c7,.int .i64 0]∧SlIn .u8 w' a7 (nibs key) c7∧SepA w' (fun z=>z<w0.heap.size) a7∧Below w0.heap.size w0 w':=by
 have bel0:=Below.refl w0.heap.size w0;have hnl:=nibs_len key;refine ret_of (args:=[_,_]) _ Tryz.func128 rfl Tryz.ntmps128 (by simp) ?_;simp -implicitDefEqProofs [go_sem];refine callE_of (nibOf_calls key w0 (by omega)) ?_;rintro v w1 ⟨a1,c1,rfl,hR1,hN1,b1⟩;have bel1:=btr bel0 b1;replace h:=h.next b1
 replace hx:=hx.next b1
 simp -implicitDefEqProofs [go_sem];refine callE_of (idxRoot_calls x w1 h hr hm hx) ?_;rintro v w2 ⟨rfl,b2⟩;have bel2:=btr bel1 b2;replace h:=h.next b2
 replace hx:=hx.next b2
 replace hR1:=hR1.next b2
 rw [h72];simp -implicitDefEqProofs [go_sem];generalize hw3:World.alloc w2 _=w3 at *;obtain ⟨hB3,b3,sz3,bel3⟩:=newF hw3 bel2;replace h:=h.next b3
 replace hx:=hx.next b3
 replace hR1:=hR1.next b3
 refine wpE_rounds 1 ?_;simp -implicitDefEqProofs [go_sem];refine body_tmp3 4 5 6 rfl ?_;simp -implicitDefEqProofs [go_sem];exact ⟨_,_,⟨rfl,rfl⟩,hR1,fun y hy=>by have:=hN1 y hy;have:=b2.size;have:=b3.size;exact ⟨by omega,by omega⟩,bel3⟩
theorem idxStands_calls (Q:Nat→NP)(a a7:Option Addr)(cap c7:Nat)(c:List Fr)(t:Tr)(r:List Nb)(w0:World)(hw:WayIn w0 Q a cap c t (c.length+1))(h7:SlIn .u8 w0 a7 r c7)(hc:c.length≤1000) :
  Ret Tryz.prog 129 #[.slice a (c.length+1) cap,.slice a7 r.length c7] w0 fun v w'=>Below w0.heap.size w0 w'∧if t.pre=r then v=.tuple #[.agg (plC (Q c.length) t.nv t.off (lbW c c.length) (wdW c t c.length)),.bool true] else v=.tuple #[.agg #[.slice none 0 0,.int .u64 0,.slice none 0 0,.slice none 0 0,.int .i64 0,.int .u8 0,.int .i64 0],.bool false]:=by
 have bel0:=Below.refl w0.heap.size w0;have hne:((c.length:Int)+1==0)=false:=by rw [beq_eq_false_iff_ne];omega
 have e1:=IntWalk.i64_in ((c.length:Int)+1-1) (by omega);have e2:=IntWalk.i64_in (c.length:Int) (by omega);refine ret_of (args:=[_,_]) _ Tryz.func129 rfl Tryz.ntmps129 (by simp) ?_;simp -implicitDefEqProofs [go_sem];generalize hw1:World.alloc w0 _=w1 at *;obtain ⟨hB1,b1,sz1,bel1⟩:=newF hw1 bel0;have hw1:=hw.row.next b1
 obtain ⟨g,o,rfl,hld⟩:=hw1.ld (i:=c.length) (by rw [wayL_len];omega) Tryz.underlying236 rfl plI;rw [wayL_get Q c t (Nat.lt_succ_self _),subT_len] at hld;have e3:(c.length:Int)<(c.length:Int)+1:=by omega
 obtain ⟨q,hq⟩:∃ q,q=Q c.length:=⟨_,rfl⟩;have hnd:=hw.nd c.length (Nat.lt_succ_self _);rw [subT_len,← hq] at hnd;rw [← hq] at hld ⊢;obtain ⟨C,hC⟩:∃ C,C=plC q t.nv t.off (lbW c c.length) (wdW c t c.length):=⟨_,rfl⟩;have hC1:∀ v∈C.toList,v.oneCell'=true:=by rw [hC];exact plC_one _ _ _ _ _
 have hCs:C.size=7:=by rw [hC];rfl
 have hpn:t.nv.pre=t.pre:=by cases t;rfl
 have hC0:C[0]?=some (.slice q.a1 t.pre.length q.c1):=by rw [hC,← hpn];rfl
 rw [← hC] at hld ⊢;have st:=stNew (P:=Tryz.prog) (t:=236) (cs:=C) (C0:=#[.slice none 0 0,.int .u64 0,.slice none 0 0,.slice none 0 0,.int .i64 0,.int .u8 0,.int .i64 0]) (by rw [hCs];exact plI) (by rw [hCs];rfl) hC1;simp -implicitDefEqProofs [go_sem,hne,e1,e2,e3,↓hld,↓st];have hnd1:=(hnd.next b1);have h71:=h7.next b1
 generalize hw2:World.alloc w1 _=w2 at *;obtain ⟨hB2,b2,sz2,bel2⟩:=newF hw2 bel1;replace hB1:=hB1.next b2
 have hnd2:=hnd1.next b2
 have hp2:=hnd2.pre.at_;rw [hpn] at hp2;simp -implicitDefEqProofs [go_sem,hB2.cell,hC0];have hle:=hnd.pre.le;have hmx:=hnd.pre.max;rw [hpn] at hle;refine callE_of (equalB_calls q.a1 a7 t.pre r q.c1 c7 w2 (by omega) hp2 (h71.next b2).at_) ?_;rintro v w3 ⟨rfl,b3⟩;have bel3:=btr bel2 b3;replace hB1:=hB1.next b3
 replace hB2:=hB2.next b3
 by_cases he:t.pre=r
 ·have ld:=ldAll (P:=Tryz.prog) hB2 Tryz.underlying236 rfl plI (n:=7) hCs;have st3:=stAll (P:=Tryz.prog) (ty:=236) (cs:=C) hB1 (by rw [hCs];exact plI) (by rw [hCs];rfl) hC1;have hR:=hB1.row C;have belR:=below_setRow bel3 (Nat.le_refl _) C;have he':decide (t.pre=r)=true:=decide_eq_true he;simp -implicitDefEqProofs [go_sem,he',he,↓ld,↓st3];refine bodyCell 4 5 rfl (by simp -implicitDefEqProofs [go_sem]) hR Tryz.underlying236 rfl (by rw [hCs];exact plI) ?_;simp -implicitDefEqProofs [go_sem,he]
  exact belR
 ·have he':decide (t.pre=r)=false:=decide_eq_false he;obtain ⟨Z,hZ⟩:∃ Z:Array Value,Z=#[.slice none 0 0,.int .u64 0,.slice none 0 0,.slice none 0 0,.int .i64 0,.int .u8 0,.int .i64 0]:=⟨_,rfl⟩;have hZs:Z.size=7:=by rw [hZ];rfl
  have hZ1:∀ v∈Z.toList,v.oneCell'=true:=by rw [hZ];simp [Value.oneCell']
  have st3:=stAll (P:=Tryz.prog) (ty:=236) (cs:=Z) hB1 (by rw [hZs];exact plI) (by rw [hZs];rfl) hZ1;have hR:=hB1.row Z;have belR:=below_setRow bel3 (Nat.le_refl _) Z;rw [hZ] at st3 hR belR;simp -implicitDefEqProofs [go_sem,he',he,↓st3];refine bodyCell 4 5 rfl (by simp -implicitDefEqProofs [go_sem]) hR Tryz.underlying236 rfl plI ?_;simp -implicitDefEqProofs [go_sem,he];exact belR
theorem idxStandsNo_calls (y:Value)(w0:World) :
  Ret Tryz.prog 129 #[.slice none 0 0,y] w0 fun v w'=>Below w0.heap.size w0 w'∧v=.tuple #[.agg #[.slice none 0 0,.int .u64 0,.slice none 0 0,.slice none 0 0,.int .i64 0,.int .u8 0,.int .i64 0],.bool false]:=by
 have bel0:=Below.refl w0.heap.size w0;refine ret_of (args:=[_,_]) _ Tryz.func129 rfl Tryz.ntmps129 (by simp) ?_;have st:=stNew (P:=Tryz.prog) (t:=236) (cs:=#[.slice none 0 0,.int .u64 0,.slice none 0 0,.slice none 0 0,.int .i64 0,.int .u8 0,.int .i64 0]) (C0:=#[.slice none 0 0,.int .u64 0,.slice none 0 0,.slice none 0 0,.int .i64 0,.int .u8 0,.int .i64 0]) plI rfl (by simp [Value.oneCell']);simp -implicitDefEqProofs [go_sem,↓st];generalize hw1:World.alloc w0 _=w1 at *
 obtain ⟨hB1,b1,sz1,bel1⟩:=newF hw1 bel0;refine bodyCell 4 5 rfl (by simp -implicitDefEqProofs [go_sem]) hB1 Tryz.underlying236 rfl plI ?_;simp -implicitDefEqProofs [go_sem];exact bel1
end
end
section
open Go Go.RowKit
open TR
structure Sys (w:World) (m:Nat) (V:PV) (b p:Nat) (G:Nat→Prop):Prop where
 pd:Pd w m V b p G
 tabs:Tabs w
 out:¬ G 1
section
variable {w w':World} {m b p:Nat} {V V':PV} {G G' F:Nat→Prop}
theorem Tabs.lt (h:Tabs w):1<w.heap.size:=World.block_lt_of_cell? w _ (h 0 (by decide))
theorem Tabs.mod (h:Tabs w)(hm:Mod F w w')(hF:¬ F 1):Tabs w':=fun j hj=>by
 have h1:=h j hj;rw [← h1];exact World.cell?_of_block (w:=w) (hm.block _ h.lt hF)
theorem Sys.next (h:Sys w m V b p G)(hb:Below w.heap.size w w'):Sys w' m V b p G:=⟨h.pd.next hb,h.tabs.next hb,h.out⟩
theorem Sys.to (h:Sys w m V b p G)(hp:Pd w' m V' b p G')(ht:Turn w G w' G'):Sys w' m V' b p G':=⟨hp,h.tabs.mod ht.mod h.out,out_turn h.out h.tabs.lt ht⟩
theorem Sys.mod (h:Sys w m V b p G)(hm:Mod F w w')(hF:∀ k,G k→¬ F k)(ho:¬ F 1):Sys w' m V b p G:=⟨h.pd.mod hm hF,h.tabs.mod hm ho,h.out⟩
theorem Sys.lt (h:Sys w m V b p G):∀ k,G k→k<w.heap.size:=h.pd.lt
theorem sysPut_calls (n:BitVec 64)(w0:World)(h:Sys w0 m V b p G)(hst:V.D.steps+3000000<1099511627776){o:Nat}(ho:o<1000000) :
  Ret Tryz.prog 168 #[.pointer (some ⟨p,0,none⟩),.int .i64 (o:Int),.int .u64 (uv n)] w0 fun v w'=>v=.int .i64 (runS V.D (putS (o:Int) n)).2∧∃ G',Sys w' m { V with D:=(runS V.D (putS (o:Int) n)).1 } b p G'∧Turn w0 G w' G':=by
 obtain ⟨tb,tc,hb,hc,F,hP,hG⟩:=h.pd;refine (put_calls' (o:Int) n w0 hP.dev (by unfold I64;omega) (by omega)).mono ?_;rintro v w' ⟨rfl,F',hD,ht⟩;have hG':Turn w0 G w' (PdK b tb hb F'):=by
  rw [hG];exact ⟨ht.mod.mono fun k hk _=>.inl hk,fun k hk=>by
   rcases hk with hk|hk
   ·rcases ht.new k hk with h1|h1
    ·exact .inl (.inl h1)
    ·exact .inr h1
   ·exact .inl (.inr hk)⟩
 exact ⟨rfl,_,h.to ⟨tb,tc,hb,hc,F',hP.turn hD ht,rfl⟩ hG',hG'⟩
theorem sysPutAll_calls (a:Option Addr)(l:List (BitVec 64))(c:Nat)(w0:World)(h:Sys w0 m V b p G)(hin:SlIn .u64 w0 a l c)(hst:V.D.steps+3000000<1099511627776){o:Nat}(ho:o<1000000) :
  Ret Tryz.prog 36 #[.pointer (some ⟨p,0,none⟩),.int .i64 (o:Int),.slice a l.length c] w0 fun v w'=>v=.int .i64 (V.D.putAll (o:Int) l).2∧∃ G',Sys w' m { V with D:=(V.D.putAll (o:Int) l).1 } b p G'∧Turn w0 G w' G':=by
 obtain ⟨tb,tc,hb,hc,F,hP,hG⟩:=h.pd;refine (putAll_calls (o:Int) a l c w0 hP.dev hin (by unfold I64;omega) (by omega)).mono ?_;rintro v w' ⟨rfl,F',hD,ht⟩;have hG':Turn w0 G w' (PdK b tb hb F'):=by
  rw [hG];exact ⟨ht.mod.mono fun k hk _=>.inl hk,fun k hk=>by
   rcases hk with hk|hk
   ·rcases ht.new k hk with h1|h1
    ·exact .inl (.inl h1)
    ·exact .inr h1
   ·exact .inl (.inr hk)⟩
 exact ⟨rfl,_,h.to ⟨tb,tc,hb,hc,F',hP.turn hD ht,rfl⟩ hG',hG'⟩
theorem shN_data (hm:m=6∨m=24):0≤(shN m).data∧(shN m).data≤1000000:=by
 have:=sz hm;exact ⟨show (0:Int)≤((dT m:Nat):Int) by omega,show ((dT m:Nat):Int)≤1000000 by omega⟩
theorem sysReserve_calls (c:Nat)(w0:World)(h:Sys w0 m V b p G)(hW:Well m V)(hm:m=6∨m=24)(hc:c=1∨c=2) :
  Ret Tryz.prog 193 #[.pointer (some ⟨b,0,none⟩),.int .i64 (c:Int)] w0 fun v w'=>v=.tuple #[.int .i64 (reserveV (shN m) V c).2.1,.int .i64 (reserveV (shN m) V c).2.2]∧∃ G',Sys w' m (reserveV (shN m) V c).1 b p G'∧Turn w0 G w' G':=by
 have zf:=sz hm;obtain ⟨tb,tc,hb,hc',F,hP,hG⟩:=h.pd;refine (poolReserve_calls V c hc w0 hP h.tabs (by rw [hW.len];omega) (shN_data hm)).mono ?_;rintro v w' ⟨rfl,hP',ht⟩;rw [← hG] at ht;exact ⟨rfl,_,h.to ⟨tb,tc,hb,hc',F,hP',hG⟩ ht,ht⟩
theorem sysTake_calls (o:Nat)(w0:World)(h:Sys w0 m V b p G)(hW:Well m V)(hm:m=6∨m=24)(hst:V.D.steps+3000000<1099511627776)(ho:o<1000000) :
  Ret Tryz.prog 194 #[.pointer (some ⟨b,0,none⟩),.int .i64 (o:Int)] w0 fun v w'=>v=.int .i64 (takeV (shN m) V (o:Int)).2∧∃ G',Sys w' m (takeV (shN m) V (o:Int)).1 b p G'∧Turn w0 G w' G':=by
 have zf:=sz hm;obtain ⟨tb,tc,hb,hc',F,hP,hG⟩:=h.pd;refine (poolTake_calls V (o:Int) w0 hP rfl (by rw [hW.len];omega) (by omega) (by unfold I64;omega) (shN_data hm)).mono ?_;rintro v w' ⟨rfl,F',hP',ht⟩;rw [← hG] at ht;exact ⟨rfl,_,h.to ⟨tb,tc,hb,hc',F',hP',rfl⟩ ht,ht⟩
theorem sysDrop_calls (o:Nat)(w0:World)(h:Sys w0 m V b p G)(hW:Well m V)(hm:m=6∨m=24)(hst:V.D.steps+3000000<1099511627776)(ho:o<1000000) :
  Ret Tryz.prog 93 #[.pointer (some ⟨b,0,none⟩),.int .i64 (o:Int)] w0 fun v w'=>v=.int .i64 (dropV (shN m) V (o:Int)).2∧∃ G',Sys w' m (dropV (shN m) V (o:Int)).1 b p G'∧Turn w0 G w' G':=by
 have zf:=sz hm;obtain ⟨tb,tc,hb,hc',F,hP,hG⟩:=h.pd;refine (poolDrop_calls V (o:Int) w0 hP rfl (by rw [hW.len];omega) (by omega) (by unfold I64;omega) (shN_data hm)).mono ?_;rintro v w' ⟨rfl,F',hP',ht⟩;rw [← hG] at ht;exact ⟨rfl,_,h.to ⟨tb,tc,hb,hc',F',hP',rfl⟩ ht,ht⟩
end
end
section
open Go Go.RowKit
open TR
section
variable {w w':World} {m b p:Nat} {V V':PV} {G G' F:Nat→Prop}
set_option maxHeartbeats 4000000
theorem idxValue_calls (x:Nat)(q:NP)(n:NdV)(o wd:Nat)(lab:Nb)(u:BitVec 64)(w0:World)(h:Sys w0 m V b p G)(hst:V.D.steps+3000000<1099511627776)(hx:Blk w0 x (IxC p b) 178)(hxG:¬ G x)(ho:o<900000) :
  Ret Tryz.prog 131 #[.pointer (some ⟨x,0,none⟩),.agg (plC q n o lab wd),.int .u64 (uv u)] w0 fun v w'=>v=.int .i64 (runS V.D (putS ((o+16:Nat):Int) u)).2∧∃ G',Sys w' m { V with D:=(runS V.D (putS ((o+16:Nat):Int) u)).1 } b p G'∧Turn w0 G w' G':=by
 have bel0:=Below.refl w0.heap.size w0;have e1:=IntWalk.i64_in ((o:Int)+16) (by omega);refine ret_of (args:=[_,_,_]) _ Tryz.func131 rfl Tryz.ntmps131 (by simp) ?_;simp -implicitDefEqProofs [go_sem,plC];have h1:=h;have hx1:=hx;generalize hw1:World.alloc w0 _=w1 at *;obtain ⟨hB1,b1,sz1,bel1⟩:=newF hw1 bel0;replace h1:=h1.next b1
 replace hx1:=hx1.next b1
 refine drawE_mix [.pure 0,.pure 1,.pure 2,.pure 4,.pure 7,.take 3,.run 5 [3],.pure 6,.run 8 [],.pure 9] mixed (by decide +kernel) (by simp only [wo];rfl) ?_;have bd:=(Below.refl w1.heap.size w1).drew;have b2:Below w0.heap.size w0 (World.drew w1):=b1.drew;generalize World.drew w1=w2 at *;have hB2:=hB1.next bd
 have x0:=(hx1.next bd).cell 0;simp [IxC] at x0;simp -implicitDefEqProofs [go_sem];refine onTake_of (fun w'=>w'.cell? ⟨x,0,none⟩=some (.pointer (some ⟨p,0,none⟩))) (.pointer (some ⟨p,0,none⟩)) x0 (fun w' hw=>by simp -implicitDefEqProofs [go_sem,hw]) ?_;simp -implicitDefEqProofs [go_sem,hB2.cell,e1];rw [show ((o:Int)+16)=((o+16:Nat):Int) by omega];refine callE_of (sysPut_calls u w2 (h.next b2) hst (o:=o+16) (by omega)) ?_;rintro v w3 ⟨rfl,G3,h3,t3⟩;refine ⟨.inr ?_,?_⟩
 ·have x3:=((hx1.next bd).mod t3.mod (fun e=>hxG e)).cell 0;simp [IxC] at x3;exact ⟨fun _=>x3,trivial⟩
 simp -implicitDefEqProofs [go_sem];refine body_tmp 6 rfl ?_;simp -implicitDefEqProofs [go_sem];exact ⟨G3,h3,⟨(Mod.of b2).trans t3.mod (fun k hk _=>hk),fun k hk=>by
  rcases t3.new k hk with h4|h4
  ·exact .inl h4
  ·have:=b2.size;right;omega⟩⟩
structure TreeS (m:Nat) (V:PV) (o:Option Tr):Prop where
 root:V.D.word 72=match o with|some T=>nameW T.off|none=>0#64
 at_:∀ T∈o,T.At (NAt m V)
 ok:∀ T∈o,T.Ok []
def itemsO:Option Tr→List TR.Item
 | some T=>T.items []
 | none=>[]
def valI (I:List TR.Item)(k:List Nb):BitVec 64:=match I.find? fun e=>decide (e.1=k) with|some e=>e.2|none=>0#64
theorem valI_none {I:List TR.Item}{k:List Nb}(h:∀ e∈I,e.1≠k):valI I k=0#64:=by
 unfold valI;rw [List.find?_eq_none.2 fun e he=>by simpa using h e he]
theorem valI_mem {I:List TR.Item}{k:List Nb}{v:BitVec 64}(hK:Keys I)(h:(k,v)∈I):valI I k=v:=by
 induction I with
 | nil=>cases h
 | cons e I ih =>
  unfold valI;rw [List.find?_cons];have hK2:=List.nodup_cons.1 (show (e.1::I.map Prod.fst).Nodup from hK)
  rcases List.mem_cons.1 h with h|h
  ·subst h;simp
  ·have hne:e.1≠k:=fun e2=>hK2.1 (by rw [e2];exact List.mem_map_of_mem (f:=Prod.fst) h)
   simp only [hne,decide_false];exact ih hK2.2 h
theorem cmn_pre:∀ {a b:List Nb},a <+: b→cmn a b=a.length
 | [],b,_=>by cases b<;>rfl
 | x::a,[],h=>by simp at h
 | x::a,y::b,h=>by
  rw [List.cons_prefix_cons] at h;rw [cmn,if_pos h.1,cmn_pre h.2];rfl
theorem val_end {t:Tr}{a r:List Nb}(hO:t.Ok a)(hE:EndW t r):(t.pre=r∧t.val≠0#64→(a++r,t.val)∈t.items a)∧(¬ (t.pre=r∧t.val≠0#64)→∀ e∈t.items a,e.1≠a++r):=by
 obtain ⟨o,p,v,ks⟩:=t;rw [items_nd];show (p=r∧v≠0#64→_)∧(¬ (p=r∧v≠0#64)→_);constructor
 ·rintro ⟨rfl,hv⟩;rw [own_pos _ hv];exact List.mem_append_left _ (List.mem_singleton_self _)
 ·intro hn e he hek
  rcases List.mem_append.1 he with he|he
  ·obtain ⟨rfl,hv⟩:=own_mem he;exact hn ⟨List.append_cancel_left hek,hv⟩
  ·obtain ⟨y,hy,hp⟩:=kids_pre _ _ e he;rw [hek,List.append_assoc] at hp;have hp2:(p++[y]) <+: r:=by
    obtain ⟨z,hz⟩:=hp;rw [List.append_assoc] at hz;exact ⟨z,List.append_cancel_left hz⟩
   have hl:=hp2.length_le;rw [List.length_append,List.length_singleton] at hl;have hc:=cmn_pre ((List.prefix_append p [y]).trans hp2)
   rcases hE with h1|h1|⟨x,hx,h1,h2⟩
   ·have h1:cmn p r<p.length:=h1;omega
   ·have h1:cmn p r=r.length:=h1;omega
   ·have hx:r[p.length]?=some x:=hx;obtain ⟨z,rfl⟩:=hp2;rw [List.append_assoc,List.getElem?_append_right (Nat.le_refl _),Nat.sub_self] at hx;have:y=x:=by simpa using hx
    rw [← this] at h2;exact h2 hy
theorem val_way {c:List Fr}{t:Tr}{r k:List Nb}(hO:(plug c t).Ok [])(hk:k=pth c++r)(hE:EndW t r):valI ((plug c t).items []) k=if t.pre=r then t.val else 0#64:=by
 have hto:=plug_ok hO;rw [List.nil_append] at hto;obtain ⟨v1,v2⟩:=val_end hto hE;have hK:=items_keys [] _ hO;by_cases h:t.pre=r∧t.val≠0#64
 ·rw [if_pos h.1];refine valI_mem hK ?_;rw [plug_items,hk,List.nil_append];exact List.mem_append_left _ (List.mem_append_right _ (v1 h))
 ·have e1:(if t.pre=r then t.val else 0#64)=0#64:=by
   by_cases h1:t.pre=r
   ·rw [if_pos h1];by_cases h2:t.val=0#64
    ·exact h2
    ·exact absurd ⟨h1,h2⟩ h
   ·rw [if_neg h1]
  rw [e1];refine valI_none fun e he hek=>?_
  rw [plug_items,List.nil_append] at he;have ho:=itL_other hO e;rw [List.nil_append] at ho
  rcases List.mem_append.1 he with he|he
  ·rcases List.mem_append.1 he with he|he
   ·exact ho (List.mem_append_left _ he) (by rw [hek,hk];exact List.prefix_append _ _)
   ·exact v2 h e he (by rw [hek,hk])
  ·exact ho (List.mem_append_right _ he) (by rw [hek,hk];exact List.prefix_append _ _)
set_option maxHeartbeats 4000000
theorem idxGet_calls (x:Nat)(key:ByteArray)(o:Option Tr)(w0:World)(h:Sys w0 m V b p G)(hr:Rest m V)(hm:m=6∨m=24)(hx:Blk w0 x (IxC p b) 178)(hk:key.size≤16)(hT:TreeS m V o) :
  Ret Tryz.prog 251 #[.pointer (some ⟨x,0,none⟩),.string key] w0 fun v w'=>Below w0.heap.size w0 w'∧v=if valI (itemsO o) (nibs key)=0#64 then .tuple #[.int .u64 0,.int .i64 7] else .tuple #[.int .u64 (uv (valI (itemsO o) (nibs key))),.int .i64 0]:=by
 have bel0:=Below.refl w0.heap.size w0;refine ret_of (args:=[_,_]) _ Tryz.func251 rfl Tryz.ntmps251 (by simp) ?_;simp -implicitDefEqProofs [go_sem];refine callE_of (idxAsk_calls x key w0 hx hk) ?_;rintro v w1 ⟨rfl,rfl⟩;simp -implicitDefEqProofs [go_sem];cases o with
 | none =>
  refine callE_of (idxPathNo_calls x key w1 h.pd hr hm hx hk hT.root) ?_;rintro v w2 ⟨a7,c7,rfl,h7,-,b2⟩;have bel2:=bel0.trans b2;simp -implicitDefEqProofs [go_sem];refine callE_of (idxStandsNo_calls _ w2) ?_;rintro v w3 ⟨b3,rfl⟩;have bel3:=btr bel2 b3
  have st:=stNew (P:=Tryz.prog) (t:=236) (cs:=#[.slice none 0 0,.int .u64 0,.slice none 0 0,.slice none 0 0,.int .i64 0,.int .u8 0,.int .i64 0]) (C0:=#[.slice none 0 0,.int .u64 0,.slice none 0 0,.slice none 0 0,.int .i64 0,.int .u8 0,.int .i64 0]) plI rfl (by simp [Value.oneCell']);simp -implicitDefEqProofs [go_sem,↓st];generalize hw4:World.alloc w3 _=w4 at *;obtain ⟨hB4,b4,sz4,bel4⟩:=newF hw4 bel3;refine body_tmp2 4 5 rfl ?_;have e0:valI (itemsO none) (nibs key)=0#64:=rfl
  simp -implicitDefEqProofs [go_sem,e0];exact bel4
 | some T =>
  refine callE_of (idxPath_calls x key T w1 h.pd hr hm hx hk hT.root (hT.at_ T rfl) (hT.ok T rfl)) ?_;rintro v w2 ⟨c,t,r,Q,a,cap,a7,c7,rfl,hkey,hE,rfl,hW,h7,b2,-⟩;have bel2:=bel0.trans b2;have hv:=val_way (hT.ok _ rfl) hkey hE;have hnl:=nibs_len key;have hcl:c.length≤32:=by
   have h3:=congrArg List.length hkey;have h4:=pth_len c;rw [List.length_append] at h3;omega
  rw [show (itemsO (some (plug c t)))=(plug c t).items [] from rfl,hv];simp -implicitDefEqProofs [go_sem];refine callE_of (idxStands_calls Q a a7 cap c7 c t r w2 hW h7 (by omega)) ?_;rintro v w3 ⟨b3,hs⟩;have bel3:=btr bel2 b3;by_cases hp:t.pre=r
  ·rw [if_pos hp] at hs ⊢;subst hs;obtain ⟨C,hC⟩:∃ C,C=plC (Q c.length) t.nv t.off (lbW c c.length) (wdW c t c.length):=⟨_,rfl⟩;have hC1:∀ v∈C.toList,v.oneCell'=true:=by rw [hC];exact plC_one _ _ _ _ _
   have hCs:C.size=7:=by rw [hC];rfl
   have hvn:t.nv.val=t.val:=by cases t;rfl
   have hC0:C[1]?=some (.int .u64 (uv t.val)):=by rw [hC,← hvn];rfl
   rw [← hC];have st:=stNew (P:=Tryz.prog) (t:=236) (cs:=C) (C0:=#[.slice none 0 0,.int .u64 0,.slice none 0 0,.slice none 0 0,.int .i64 0,.int .u8 0,.int .i64 0]) (by rw [hCs];exact plI) (by rw [hCs];rfl) hC1;simp -implicitDefEqProofs [go_sem,↓st];generalize hw4:World.alloc w3 _=w4 at *;obtain ⟨hB4,b4,sz4,bel4⟩:=newF hw4 bel3;by_cases h0:t.val=0#64
   ·have h0':(t.val==0#64)=true:=by simpa using h0
    simp -implicitDefEqProofs [go_sem,hB4.cell,hC0,h0'];refine body_tmp2 4 5 rfl ?_;simp -implicitDefEqProofs [go_sem,h0];exact bel4
   ·have h0':(t.val==0#64)=false:=by simpa using h0
    simp -implicitDefEqProofs [go_sem,hB4.cell,hC0,h0'];refine body_tmp2 4 5 rfl ?_;simp -implicitDefEqProofs [go_sem,h0];exact bel4
  ·rw [if_neg hp] at hs ⊢;subst hs;have st:=stNew (P:=Tryz.prog) (t:=236) (cs:=#[.slice none 0 0,.int .u64 0,.slice none 0 0,.slice none 0 0,.int .i64 0,.int .u8 0,.int .i64 0]) (C0:=#[.slice none 0 0,.int .u64 0,.slice none 0 0,.slice none 0 0,.int .i64 0,.int .u8 0,.int .i64 0]) plI rfl (by simp [Value.oneCell']);simp -implicitDefEqProofs [go_sem,↓st];generalize hw4:World.alloc w3 _=w4 at *;obtain ⟨hB4,b4,sz4,bel4⟩:=newF hw4 bel3;refine body_tmp2 4 5 rfl ?_
   simp -implicitDefEqProofs [go_sem];exact bel4
end
end
section
open Go Go.RowKit
open TR
structure Grew (m:Nat) (V V':PV) (L:List Nat):Prop where
 rest:Rest m V'
 old:∀ y:Nat,y∉L→Bk m V' (y:Int)=Bk m V (y:Int)
 new:∀ y∈L,Bk m V ((y:Nat):Int)=0∧0<Bk m V' ((y:Nat):Int)
 nd:L.Nodup
 head:∀ x,x%8=0→x<128→V'.D.word x=V.D.word x
 words:∀ y i:Nat,((8*i:Nat):Int)<Bk m V (y:Int)→V'.D.word (y+8*i)=V.D.word (y+8*i)
 steps:V'.D.steps≤V.D.steps+50*L.length
def Many (m:Nat)(V:PV)(n:Nat):Prop:=∀ L:List Nat,(∀ y:Nat,0<Bk m V (y:Int)→y∈L)→n≤L.length
section
variable {m:Nat} {V V1 V2:PV} {L L1 L2:List Nat}
theorem Grew.refl (h:Rest m V):Grew m V V []:=⟨h,fun _ _=>rfl,(fun _ h=>by cases h),List.nodup_nil,fun _ _ _=>rfl,fun _ _ _=>rfl,Nat.le_refl _⟩
theorem Grew.keep (h:Grew m V V1 L){y:Nat}(hy:0<Bk m V (y:Int)):y∉L∧Bk m V1 (y:Int)=Bk m V (y:Int):=by
 have h1:y∉L:=fun hm=>by have:=(h.new y hm).1;omega
 exact ⟨h1,h.old y h1⟩
theorem Grew.trans (h:Grew m V V1 L1)(k:Grew m V1 V2 L2):Grew m V V2 (L1++L2):=by
 refine ⟨k.rest,fun y hy=>?_,fun y hy=>?_,?_,fun x hx hx2=>(k.head x hx hx2).trans (h.head x hx hx2),fun y i hi=>?_,?_⟩
 ·rw [List.mem_append,not_or] at hy;exact (k.old y hy.2).trans (h.old y hy.1)
 ·rcases List.mem_append.1 hy with hy|hy
  ·obtain ⟨h1,h2⟩:=h.new y hy;exact ⟨h1,by rw [(k.keep h2).2];exact h2⟩
  ·obtain ⟨h1,h2⟩:=k.new y hy;refine ⟨?_,h2⟩;by_cases hm:y∈L1
   ·have:=(h.new y hm).2;omega
   ·rw [← h.old y hm];exact h1
 ·refine List.nodup_append.2 ⟨h.nd,k.nd,fun a ha b hb e=>?_⟩;subst e;have:=(h.new a ha).2;have:=(k.new a hb).1;omega
 ·have hp:0<Bk m V (y:Int):=by omega
  rw [k.words y i (by rw [(h.keep hp).2];exact hi),h.words y i hi]
 ·have:=h.steps;have:=k.steps;rw [List.length_append];omega
theorem Grew.node (h:Grew m V V1 L){o:Nat}{n:NdV}(hn:NAt m V o n):NAt m V1 o n:=by
 have hp:0<Bk m V (o:Int):=by rw [hn.blk];rcases many_eq n with ⟨e,_⟩|⟨e,_⟩<;>rw [e]<;>decide
 exact hn.keep (h.keep hp).2 fun i hi=>h.words o i (by rw [hn.blk];omega)
theorem Grew.tree (h:Grew m V V1 L){t:Tr}(ht:t.At (NAt m V)):t.At (NAt m V1):=at_mono ht fun _ _ _ hn=>h.node hn
theorem Grew.kids (h:Grew m V V1 L){t:Ks}(ht:t.At (NAt m V)):t.At (NAt m V1):=kids_mono ht fun _ _ _ hn=>h.node hn
theorem linesN (n:NdV):64*linesI (n.cls:Int)=((8*n.many:Nat):Int):=by
 rcases many_eq n with ⟨e,e2⟩|⟨e,e2⟩<;>rw [e,e2]<;>rfl
theorem nat_not_mem {y o:Nat}(h:y∉[o]):(y:Int)≠(o:Int):=fun e=>h (by rw [List.mem_singleton];omega)
theorem built (h:Rest m V)(hm:m=6∨m=24){n:NdV}(hn:n.Right){off:Nat}(hh:Hold m V V1 off n.cls)(h0:Bk m V (off:Int)=0)(h1:Bk m V1 (off:Int)=64*linesI (n.cls:Int))(h2:∀ y,y≠(off:Int)→Bk m V1 y=Bk m V y) :
  (V1.D.putAll (off:Int) (enc n)).2=0∧Well m { V1 with D:=(V1.D.putAll (off:Int) (enc n)).1 }∧(V1.D.putAll (off:Int) (enc n)).1.steps≤V.D.steps+40∧∃ V2,takeV (shN m) { V1 with D:=(V1.D.putAll (off:Int) (enc n)).1 } off=(V2,0)∧Grew m V V2 [off]∧NAt m V2 off n∧off%64=0∧dT m≤off∧off+8*n.many≤64*nL m:=by
 have zf:=sz hm;rw [linesN] at h1;have hmany:n.many=8∨n.many=32:=by rcases many_eq n with ⟨e,_⟩|⟨e,_⟩<;>omega
 have hp1:0<Bk m V1 (off:Int):=by rw [h1];omega
 obtain ⟨o',ho',o1,o2,o3,o4⟩:=bk_in hm hp1;obtain rfl:off=o':=by omega
 rw [h1] at o3;rw [hh.d];obtain ⟨u1,u2,u3,u4,u5,u6⟩:=putAll_up h.well.up h.well.ok h.well.lines hm (o:=off) (l:=enc n) o1 (by rw [enc_len];omega) (by rw [enc_len];omega);rw [enc_len] at u5;refine ⟨u1,well_dev hh.well u2 u3 u4 fun i hi=>by rw [hh.d,u5 _ (by omega) (by omega),if_neg (by omega)],u6,?_⟩;obtain ⟨V2,e2,r2,k2,w2,s2⟩:=hold_take h hm hh u2 u3 u4 (fun x hx hx2=>by rw [u5 x hx (by omega),if_neg (by omega)])
 have hb2:∀ y:Nat,y∉[off]→Bk m V2 (y:Int)=Bk m V (y:Int):=fun y hy=>by rw [k2,h2 _ (nat_not_mem hy)]
 refine ⟨V2,e2,⟨r2,hb2,fun y hy=>?_,by simp,fun x hx hx2=>?_,fun y i hi=>?_,?_⟩,⟨hn,by rw [k2,h1],fun i hi=>?_⟩,o1,o2,by omega⟩
 ·rw [List.mem_singleton] at hy;subst hy;exact ⟨h0,by rw [k2];exact hp1⟩
 ·rw [w2 x hx (by omega) (by omega),u5 x hx (by omega),if_neg (by omega)]
 ·have hp:0<Bk m V (y:Int):=by omega
  obtain ⟨y',hy',y1,y2,y3,y4⟩:=bk_in hm hp;obtain rfl:y=y':=by omega
  have hne:(y:Int)≠(off:Int):=fun e=>by rw [e] at hp;omega
  have hp':0<Bk m V1 (y:Int):=by rw [h2 _ hne];exact hp
  have ha:=bk_apart hm hp' hp1 hne;rw [h1,h2 _ hne] at ha;rw [w2 _ (by omega) (by omega) (by omega),u5 _ (by omega) (by omega),if_neg (by omega)]
 ·have:=hold_take h hm hh u2 u3 u4 (fun x hx hx2=>by rw [u5 x hx (by omega),if_neg (by omega)]);show V2.D.steps≤V.D.steps+50*1;omega
 ·rw [w2 _ (by omega) (by omega) (by omega),u5 _ (by omega) (by omega),if_pos (by omega),show (off+8*i-off)/8=i by omega];exact enc_get n hi
end
end
end Go.Proofs.YtaaihijkdhmcdaaGreatDoor
